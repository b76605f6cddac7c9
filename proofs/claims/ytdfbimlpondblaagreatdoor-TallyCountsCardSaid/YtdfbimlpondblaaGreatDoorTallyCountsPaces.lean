/-
  The walks of the functions that the laws of this seat reach, part 2: each returns what its plain counterpart tells, and turns nothing that was there.
-/
import Derived.Test.YtdfbimlpondblaaGreatDoorProg
import Derived.Test.YtdfbimlpondblaaGreatDoorEnv
import Derived.Test.YtdfbimlpondblaaGreatDoorPlain
import Derived.Test.YtdfbimlpondblaaGreatDoorBase
import Derived.Tactics
import Derived.Tactics2
import Derived.Defers
import Derived.Laws.Pointers
import Derived.Laws.LoneSync
import Derived.RegionTactic
import Derived.RegionCalls
import Derived.ChangeAlike
import Derived.Test.YtdfbimlpondblaaGreatDoorOrd
import Derived.Test.YtdfbimlpondblaaGreatDoorRel
import Derived.Test.YtdfbimlpondblaaGreatDoorClo
import Derived.Test.YtdfbimlpondblaaGreatDoorCov
import Derived.Test.YtdfbimlpondblaaGreatDoorArr
import Derived.Test.YtdfbimlpondblaaGreatDoorHas
import Derived.Test.YtdfbimlpondblaaGreatDoorStr
import Derived.Test.YtdfbimlpondblaaGreatDoorVu
import Derived.Test.YtdfbimlpondblaaGreatDoorGrd
import Derived.Test.YtdfbimlpondblaaGreatDoorShp
import Derived.Test.YtdfbimlpondblaaGreatDoorShl
import Derived.Test.YtdfbimlpondblaaGreatDoorShq
import Derived.Test.YtdfbimlpondblaaGreatDoorShr
import Derived.Test.YtdfbimlpondblaaGreatDoorCut
import Derived.Test.YtdfbimlpondblaaGreatDoorRec
import Derived.Test.YtdfbimlpondblaaGreatDoorScp
import Derived.Test.YtdfbimlpondblaaGreatDoorNod
import Derived.Test.YtdfbimlpondblaaGreatDoorSpl
import Derived.Test.YtdfbimlpondblaaGreatDoorSpn
import Derived.Test.YtdfbimlpondblaaGreatDoorSpx
import Derived.Test.YtdfbimlpondblaaGreatDoorAsp
import Derived.Test.YtdfbimlpondblaaGreatDoorMk
import Derived.Test.YtdfbimlpondblaaGreatDoorAsr
import Derived.Test.YtdfbimlpondblaaGreatDoorAst
import Derived.Test.YtdfbimlpondblaaGreatDoorGap
import Derived.Test.YtdfbimlpondblaaGreatDoorFst
import Derived.Test.YtdfbimlpondblaaGreatDoorFsu
import Derived.Test.YtdfbimlpondblaaGreatDoorFsx
import Derived.Test.YtdfbimlpondblaaGreatDoorCel
import Derived.Test.YtdfbimlpondblaaGreatDoorTal
import Derived.Test.YtdfbimlpondblaaGreatDoorIns
import Derived.Test.YtdfbimlpondblaaGreatDoorCod
import Derived.Test.YtdfbimlpondblaaGreatDoorOpv
import Derived.Test.YtdfbimlpondblaaGreatDoorCal
import Derived.Test.YtdfbimlpondblaaGreatDoorMin
import Derived.Test.YtdfbimlpondblaaGreatDoorTallyCountsPacesA
namespace Go.Proofs.YtdfbimlpondblaaGreatDoor.W
open Go Go.RowKit Go.Proofs.YtdfbimlpondblaaGreatDoor.E Go.Proofs.YtdfbimlpondblaaGreatDoor.M
set_option linter.unusedVariables false
set_option linter.unusedSimpArgs false
set_option maxRecDepth 100000
open Tryz
set_option maxHeartbeats 1000000 in
theorem c_tally_table_fill (W0 : World) (b : Nat) (r : Rl) (L : List Ent) (w : World) (hT : Tab W0) (hH : Hp W0 w (.blk b (.cells (tabL r 0 1 (.slice none 0 0) (.slice none 0 0)).toArray 102 (0, 0)) :: L)) : Calls Tryz.prog 52 #[.pointer (some ⟨b, 0, none⟩)] w (Ret fun u w' => u = .tuple #[] ∧ ∃ (v1 v2 : Value) (rs : List RwU) (Z : List Ent), TabV (Kz KN Z) r v1 v2 rs ∧ Hp W0 w' (.blk b (.cells (tabL r 0 1 (v1) (v2)).toArray 102 (0, 0)) :: (Z ++ L))) := by
 have hp := pts_bd r
 have hpp : pts r = max 0 (min r.n 64) := rfl
 have hwl := wordsT_len (r := r) (k := (pts r).toNat)
 refine enter Tryz.func52 rfl Tryz.ntmps52 rfl <| have hN := (hH.nilRow 99 1).nilRow 38 1; SR <| vm (v := Pn _ _) rfl <| V (run_nilCheck rfl) <| V (fA underlying102 0 rfl sizeOf59 rfl) <| V (fA underlying59 0 rfl sizeOf3 rfl) <| V (run_ld underlying3 rfl rfl (hN.cell (i := 2) rfl tab_n)) <| V (run_minI rfl rfl) <| V (run_maxI rfl rfl) <| aI rfl <| RL.nil <| CW.seq <| SR <| mI rfl <| vm (v := I 0) rfl <| RL.nil <| CW.block <| CW.loop (G := Int × Value) (fun ⟨k, v1⟩ s' w' => (Fr (3 :: (rg 17 19 [])) _ s') ∧ (Hp W0 w' (.row v1 38 1 (wordsT r (k).toNat).length ((wordsT r (k).toNat).map U) :: _ :: .blk b (.cells (tabL r 0 1 (v1) (.slice none 0 0)).toArray 102 (0, 0)) :: _)) ∧ (s' 17 = I k) ∧ (0 ≤ k) ∧ (k ≤ pts r)) (fun ⟨k, v1⟩ => (pts r - k).toNat) ((0, .slice none 0 0)) ⟨Fr.refl _ _, hN, rfl, (by omega), (by omega)⟩ <| ?_
 rintro ⟨k, v1⟩ sg1 w1 ⟨fr1, hH1, e17_1, h0, hk⟩
 have e0_1 := fr1.pp 0 rfl rfl
 have e2_1 := fr1.ii 2 rfl rfl
 have e16_1 := fr1.ii 16 rfl rfl
 have hwk := wordsT_len (r := r) (k := k.toNat)
 refine SR <| V (run_lss e17_1 e16_1) <| RL.nil <| CW.seq <| CW.condP rfl (fun h3 => ?_) (fun h3 => ?_)
 ·refine CW.skip <| CW.cutG (G := (Value)) hH1 (3 :: (rg 19 16 [])) (fun (L : List Ent) (v3 : (Value)) => ((L).set 2 (.blk b (.cells (tabL r 0 1 (v3) (.slice none 0 0)).toArray 102 (0, 0)))).set 0 (.row v3 38 1 (wordsT r ((k + 1)).toNat).length ((wordsT r ((k + 1)).toNat).map U))) (fun (v3 : (Value)) s' => True) ?_ ?_
  ·refine CW.block <| SR <| vm e17_1 <| aI rfl <| RL.nil <| CW.regionS (by kernel_rfl) hH1 (sQ (sP (sQ sR))) <| fun w4 hH5 => have zh5 := hH5.sub (sQ (sP (sQ sR))); AQ 0 rfl zh5 (run_move e0_1) <| AQ 1 rfl zh5 (run_move e0_1) <| AQ 2 rfl zh5 (run_nilCheck rfl) <| AQ 3 rfl zh5 (fA underlying102 68 rfl sizeOf99 rfl) <| AQ 5 rfl zh5 (run_move e0_1) <| AQ 6 rfl zh5 (run_nilCheck rfl) <| AQ 7 rfl zh5 (fA underlying102 0 rfl sizeOf59 rfl) <| AQ 9 rfl zh5 (mV (I _) rfl) <| AN.two 4 8 (by kernel_rfl) ?_ ?_
   ·refine AO.read rfl gnone rfl hH5 (sQ (sP (sQ sR))) (run_ld underlying99 rfl rfl (hH5.cell (i := 2) rfl tab_w)) <| A1 8 <| AO.read rfl gnone rfl hH5 (sQ (sP (sQ sR))) (run_ldTab underlying59 rfl rfl rfl (hH5.blk (i := 2) rfl)) <| A1 10 <| AO.callP rfl gnone rfl hH5 (sQ (sP (sQ sR))) (c_hasse_Word _ _  _ (hT.hp hH5)) (run_call2 call62 rfl rfl) <| fun w10 hH11 => A1 11 <| AO.new rfl gnone rfl hH11 (sQ (sP (sQ sR))) (f := fun b => .slice (some ⟨b, 0, none⟩) 1 1) (run_mkL underlying99 rfl rfl (sz := 1) (vs := [U _]) rfl rfl (by decide) (by decide) rfl rfl) <| fun b14 w12 hH13 => ?_
    (try simp only [clX] at hH13)
    refine A1 12 <| AO.app rfl gnone rfl hH13 (j := 1) rfl (fun _ => (sQ (sQ (sP (sQ sR))))) (hH13.slBlk (i := 0) (n := 1) (sz := 1) rfl rfl (by decide)) rfl rfl underlying99 rfl rfl (size := 1) (bytes := 8) rfl rfl rfl (by decide) (by simp [Value.oneCell']) (by omega) (by simp only [maxLen]; omega) <| fun v17 w15 hH16 => ?_
    simp only [z2] at hH16
    refine AQ 13 rfl (hH16.sub (sQ (sQ (sP (sQ sR))))) (run_nilCheck rfl) <| AQ 14 rfl (hH16.sub (sQ (sQ (sP (sQ sR))))) (fA underlying102 68 rfl sizeOf99 rfl) <| A1 15 <| AO.set rfl gnone hH16 (j := 3) rfl (sQ (sQ (sP (sQ sR)))) (run_st rfl rfl (v := v17) rfl (row_cells (hH16.get (i := 1) rfl)).1 (row_cells (hH16.get (i := 1) rfl)).2 (hH16.blk (i := 3) rfl) (by show _ < (tabL _ _ _ _ _).toArray.size; rw [List.size_toArray, tabL_len]; decide)) <| fun w20 hH21 => ?_
    simp only [z2] at hH21
    rw [tab_setw] at hH21
    refine AD ?_
    refine ⟨((Fr.refl _ _)).u4.u4.u4.u4.u1, v17, (Hp.conv (hH21.sub (sQ sR)) (by rw [wordsT_next h0, List.map_append, List.length_append]; rfl)), trivial⟩
   ·refine AO.read rfl gnone rfl hH5 (sQ (sP (sQ sR))) (run_ldTab underlying59 rfl rfl rfl (hH5.blk (i := 2) rfl)) <| AN.two 4 10 (by kernel_rfl) ?_ ?_
    ·refine AO.read rfl gnone rfl hH5 (sQ (sP (sQ sR))) (run_ld underlying99 rfl rfl (hH5.cell (i := 2) rfl tab_w)) <| A1 10 <| AO.callP rfl gnone rfl hH5 (sQ (sP (sQ sR))) (c_hasse_Word _ _  _ (hT.hp hH5)) (run_call2 call62 rfl rfl) <| fun w26 hH27 => A1 11 <| AO.new rfl gnone rfl hH27 (sQ (sP (sQ sR))) (f := fun b => .slice (some ⟨b, 0, none⟩) 1 1) (run_mkL underlying99 rfl rfl (sz := 1) (vs := [U _]) rfl rfl (by decide) (by decide) rfl rfl) <| fun b30 w28 hH29 => ?_
     (try simp only [clX] at hH29)
     refine A1 12 <| AO.app rfl gnone rfl hH29 (j := 1) rfl (fun _ => (sQ (sQ (sP (sQ sR))))) (hH29.slBlk (i := 0) (n := 1) (sz := 1) rfl rfl (by decide)) rfl rfl underlying99 rfl rfl (size := 1) (bytes := 8) rfl rfl rfl (by decide) (by simp [Value.oneCell']) (by omega) (by simp only [maxLen]; omega) <| fun v33 w31 hH32 => ?_
     simp only [z2] at hH32
     refine AQ 13 rfl (hH32.sub (sQ (sQ (sP (sQ sR))))) (run_nilCheck rfl) <| AQ 14 rfl (hH32.sub (sQ (sQ (sP (sQ sR))))) (fA underlying102 68 rfl sizeOf99 rfl) <| A1 15 <| AO.set rfl gnone hH32 (j := 3) rfl (sQ (sQ (sP (sQ sR)))) (run_st rfl rfl (v := v33) rfl (row_cells (hH32.get (i := 1) rfl)).1 (row_cells (hH32.get (i := 1) rfl)).2 (hH32.blk (i := 3) rfl) (by show _ < (tabL _ _ _ _ _).toArray.size; rw [List.size_toArray, tabL_len]; decide)) <| fun w36 hH37 => ?_
     simp only [z2] at hH37
     rw [tab_setw] at hH37
     refine AD ?_
     refine ⟨((Fr.refl _ _)).u4.u4.u4.u4.u1, v33, (Hp.conv (hH37.sub (sQ sR)) (by rw [wordsT_next h0, List.map_append, List.length_append]; rfl)), trivial⟩
    ·refine AO.callP rfl gnone rfl hH5 (sQ (sP (sQ sR))) (c_hasse_Word _ _  _ (hT.hp hH5)) (run_call2 call62 rfl rfl) <| fun w38 hH39 => AN.two 4 11 (by kernel_rfl) ?_ ?_
     ·refine AO.read rfl gnone rfl hH39 (sQ (sP (sQ sR))) (run_ld underlying99 rfl rfl (hH39.cell (i := 2) rfl tab_w)) <| A1 11 <| AO.new rfl gnone rfl hH39 (sQ (sP (sQ sR))) (f := fun b => .slice (some ⟨b, 0, none⟩) 1 1) (run_mkL underlying99 rfl rfl (sz := 1) (vs := [U _]) rfl rfl (by decide) (by decide) rfl rfl) <| fun b44 w42 hH43 => ?_
      (try simp only [clX] at hH43)
      refine A1 12 <| AO.app rfl gnone rfl hH43 (j := 1) rfl (fun _ => (sQ (sQ (sP (sQ sR))))) (hH43.slBlk (i := 0) (n := 1) (sz := 1) rfl rfl (by decide)) rfl rfl underlying99 rfl rfl (size := 1) (bytes := 8) rfl rfl rfl (by decide) (by simp [Value.oneCell']) (by omega) (by simp only [maxLen]; omega) <| fun v47 w45 hH46 => ?_
      simp only [z2] at hH46
      refine AQ 13 rfl (hH46.sub (sQ (sQ (sP (sQ sR))))) (run_nilCheck rfl) <| AQ 14 rfl (hH46.sub (sQ (sQ (sP (sQ sR))))) (fA underlying102 68 rfl sizeOf99 rfl) <| A1 15 <| AO.set rfl gnone hH46 (j := 3) rfl (sQ (sQ (sP (sQ sR)))) (run_st rfl rfl (v := v47) rfl (row_cells (hH46.get (i := 1) rfl)).1 (row_cells (hH46.get (i := 1) rfl)).2 (hH46.blk (i := 3) rfl) (by show _ < (tabL _ _ _ _ _).toArray.size; rw [List.size_toArray, tabL_len]; decide)) <| fun w50 hH51 => ?_
      simp only [z2] at hH51
      rw [tab_setw] at hH51
      refine AD ?_
      refine ⟨((Fr.refl _ _)).u4.u4.u4.u4.u1, v47, (Hp.conv (hH51.sub (sQ sR)) (by rw [wordsT_next h0, List.map_append, List.length_append]; rfl)), trivial⟩
     ·refine AO.new rfl gnone rfl hH39 (sQ (sP (sQ sR))) (f := fun b => .slice (some ⟨b, 0, none⟩) 1 1) (run_mkL underlying99 rfl rfl (sz := 1) (vs := [U _]) rfl rfl (by decide) (by decide) rfl rfl) <| fun b54 w52 hH53 => ?_
      (try simp only [clX] at hH53)
      refine A1 4 <| AO.read rfl gnone rfl hH53 (sQ (sQ (sP (sQ sR)))) (run_ld underlying99 rfl rfl (hH53.cell (i := 3) rfl tab_w)) <| A1 12 <| AO.app rfl gnone rfl hH53 (j := 1) rfl (fun _ => (sQ (sQ (sP (sQ sR))))) (hH53.slBlk (i := 0) (n := 1) (sz := 1) rfl rfl (by decide)) rfl rfl underlying99 rfl rfl (size := 1) (bytes := 8) rfl rfl rfl (by decide) (by simp [Value.oneCell']) (by omega) (by simp only [maxLen]; omega) <| fun v59 w57 hH58 => ?_
      simp only [z2] at hH58
      refine AQ 13 rfl (hH58.sub (sQ (sQ (sP (sQ sR))))) (run_nilCheck rfl) <| AQ 14 rfl (hH58.sub (sQ (sQ (sP (sQ sR))))) (fA underlying102 68 rfl sizeOf99 rfl) <| A1 15 <| AO.set rfl gnone hH58 (j := 3) rfl (sQ (sQ (sP (sQ sR)))) (run_st rfl rfl (v := v59) rfl (row_cells (hH58.get (i := 1) rfl)).1 (row_cells (hH58.get (i := 1) rfl)).2 (hH58.blk (i := 3) rfl) (by show _ < (tabL _ _ _ _ _).toArray.size; rw [List.size_toArray, tabL_len]; decide)) <| fun w62 hH63 => ?_
      simp only [z2] at hH63
      rw [tab_setw] at hH63
      refine AD ?_
      refine ⟨((Fr.refl _ _)).u4.u4.u4.u4.u1, v59, (Hp.conv (hH63.sub (sQ sR)) (by rw [wordsT_next h0, List.map_append, List.length_append]; rfl)), trivial⟩
  ·rintro v3 sg64 w64 fr64 hH64 -
   simp only [z2] at hH64
   have e17_64 := (fr64 17 rfl).trans e17_1
   refine CW.region <| V (run_add e17_64 rfl (by omega)) <| mI rfl <| RL.nil <| ?_
   refine ⟨(k + 1, v3), ?_, (((fr1.u rfl).t fr64 rfl)).u1.u1, (Hp.conv hH64 (by rfl)), (congrArg I (by rfl)), ?_, ?_⟩
   ·((try dsimp only); omega)
   ·omega
   ·omega
 ·refine CW.exit (id := 0) rfl <| SR <| vm e2_1 <| vm (v := I 0) rfl <| RL.nil <| CW.block <| have hk1 : k.toNat = (pts r).toNat := (by omega); ?_
  rw [hk1] at hH1
  refine CW.loop (G := Int × Value × (List RwU) × (List Ent)) (fun ⟨i, v2, rs, Z1⟩ s' w' => (Fr (rg 4 5 (rg 37 76 [])) _ s') ∧ (Hp W0 w' (_ :: .row v2 99 1 rs.length (rs.map RwU.v) :: .blk b (.cells (tabL r 0 1 (v1) (v2)).toArray 102 (0, 0)) :: Z1)) ∧ (s' 37 = I i) ∧ (0 ≤ i) ∧ (i ≤ pts r) ∧ (rs.map RwU.l = joinsT r (pts r).toNat i.toNat) ∧ (∃ Zr, Z1 = Zr ++ L ∧ ∀ x ∈ rs, SlV (Kz KN Zr) x.v 1 x.l.length (x.l.map U)) ∧ (rs.length = i.toNat)) (fun ⟨i, v2, rs, Z1⟩ => (pts r - i).toNat) ((0, .slice none 0 0, [], L)) ⟨Fr.refl _ _, hH1, rfl, (by omega), (by omega), rfl, ⟨[], rfl, fun x hx => by cases hx⟩, rfl⟩ ?_
  rintro ⟨i, v2, rs, Z1⟩ sg65 w65 ⟨fr65, hH65, e37_65, i0, hi, hrs, hZ, hln⟩
  have e0_65 := (fr65 0 rfl).trans e0_1
  have e2_65 := (fr65 2 rfl).trans e2_1
  have e36_65 := fr65.ii 36 rfl rfl
  obtain ⟨Zr, rfl, hE⟩ := hZ
  refine SR <| V (run_lss e37_65 e36_65) <| RL.nil <| CW.seq <| CW.condP rfl (fun h67 => ?_) (fun h67 => ?_)
  ·refine CW.skip <| CW.seq <| CW.block <| SR <| vm e37_65 <| aI rfl <| RL.nil <| SR <| vm e2_65 <| RL.new rfl hH65 (f := fun b => (.slice (some ⟨b, 0, none⟩) (pts r).toNat (pts r).toNat)) (run_mkRow (cl := fun x : BitVec 64 => [U x]) (sz := 1) (z0 := 0#64) (n := (pts r).toNat) (fun _ => rfl) (by decide) underlying99 rfl rfl (by kernel_rfl) rfl (congrArg I (show _ = (((pts r).toNat : Nat) : Int) from by omega)) (congrArg I (show _ = (((pts r).toNat : Nat) : Int) from by omega)) (by show 8 * _ ≤ _; omega) (by simp only [maxLen]; omega)) <| fun b68 w69 hH70 => ?_
   rw [mk_zero (r := r) (i := i)] at hH70
   have hH71 := hH70.blkRow (pts r).toNat 1 (by rw [List.length_map, rowJ_len, Nat.mul_one]) (by simp only [maxLen]; omega)
   refine V (run_assign (by conv => lhs; whnf)) ?_
   refine RL.nil <| CW.seq <| SR <| vm e2_65 <| vm (v := I 0) rfl <| RL.nil <| CW.block <| CW.loop (G := Int) (fun j s' w' => (Fr (rg 6 3 (rg 43 59 [])) _ s') ∧ (Hp W0 w' (.row (.slice (some ⟨b68, 0, none⟩) (pts r).toNat (pts r).toNat) 38 1 (pts r).toNat ((rowJ r i (pts r).toNat j.toNat).map U) :: _)) ∧ (s' 43 = I j) ∧ (0 ≤ j) ∧ (j ≤ pts r)) (fun j => (pts r - j).toNat) (0) ⟨Fr.refl _ _, hH71, rfl, (by omega), (by omega)⟩ <| ?_
   rintro j sg72 w72 ⟨fr72, hH72, e43_72, j0, hj⟩
   have e0_72 := (fr72 0 rfl).trans e0_65
   have e4_72 := fr72.ii 4 rfl rfl
   have e5_72 := (fr72 5 rfl).trans (by conv => lhs; whnf)
   have e37_72 := (fr72 37 rfl).trans e37_65
   have e42_72 := fr72.ii 42 rfl rfl
   refine SR <| V (run_lss e43_72 e42_72) <| RL.nil <| CW.seq <| CW.condP rfl (fun h74 => ?_) (fun h74 => ?_)
   ·refine CW.skip <| CW.seq <| CW.block <| SR <| vm e43_72 <| aI rfl <| RL.nil <| CW.seq <| CW.regionS (by kernel_rfl) hH72 (sQ sR) <| fun w75 hH76 => have zh76 := hH76.sub (sQ sR); AQ 0 rfl zh76 (run_move e5_72) <| AQ 1 rfl zh76 (mV (I _) rfl) <| AQ 2 rfl zh76 (run_move e0_72) <| AQ 3 rfl zh76 (run_nilCheck rfl) <| AQ 4 rfl zh76 (fA underlying102 68 rfl sizeOf99 rfl) <| AT 5 rfl zh76 (fun w hS => run_ld underlying99 rfl rfl (hS.cell (i := 2) rfl tab_w)) <| AQ 6 rfl zh76 (run_move e4_72) <| AT 7 rfl zh76 (fun w hS => run_indexAddrS (hS.sl (i := 0) rfl) underlying99 sizeOf38 rfl rfl (by omega)) <| AT 8 rfl zh76 (fun w hS => run_ld underlying38 rfl rfl (words_cell (hS.sl (i := 0) rfl) (by omega))) <| AQ 9 rfl zh76 (run_move e0_72) <| AQ 10 rfl zh76 (run_nilCheck rfl) <| AQ 11 rfl zh76 (fA underlying102 68 rfl sizeOf99 rfl) <| AT 12 rfl zh76 (fun w hS => run_ld underlying99 rfl rfl (hS.cell (i := 2) rfl tab_w)) <| AQ 13 rfl zh76 (mV (I _) rfl) <| AT 14 rfl zh76 (fun w hS => run_indexAddrS (hS.sl (i := 0) rfl) underlying99 sizeOf38 rfl rfl (by omega)) <| AT 15 rfl zh76 (fun w hS => run_ld underlying38 rfl rfl (words_cell (hS.sl (i := 0) rfl) (by omega))) <| AQ 16 rfl zh76 (run_orU rfl rfl) <| A1 17 <| AO.read rfl gnone rfl hH76 (sQ sR) (run_indexAddrS (hH76.sl (i := 0) rfl) underlying99 sizeOf38 rfl rfl (by omega)) <| A1 18 <| AO.rowst1 (u := U _) rfl gnone hH76 (i := 0) rfl (fun _ => (sQ sR)) (by omega) rfl rfl rfl rfl rfl (by omega) <| fun w81 hH82 => ?_
    simp only [z2] at hH82
    rw [putL_set (by rw [List.length_map]; (try rw [List.length_set]); rw [rowJ_len]; omega), set_mapU, Nat.mul_one] at hH82
    refine AD <| CW.seq <| CW.regionD (by kernel_rfl) hH82 <| fun w83 hH84 => have zh84 := hH84.sub sR; AQ 0 rfl zh84 (run_move e0_72) <| AQ 1 rfl zh84 (run_nilCheck rfl) <| AQ 2 rfl zh84 (fA underlying102 0 rfl sizeOf59 rfl) <| AT 3 rfl zh84 (fun w hS => run_ldTab underlying59 rfl rfl rfl (hS.blk (i := 3) rfl)) <| AQ 4 rfl zh84 (run_move e0_72) <| AQ 5 rfl zh84 (run_move e0_72) <| AQ 6 rfl zh84 (run_nilCheck rfl) <| AQ 7 rfl zh84 (fA underlying102 68 rfl sizeOf99 rfl) <| AT 8 rfl zh84 (fun w hS => run_ld underlying99 rfl rfl (hS.cell (i := 3) rfl tab_w)) <| AQ 9 rfl zh84 (run_move e4_72) <| AT 10 rfl zh84 (fun w hS => run_indexAddrS (hS.sl (i := 1) rfl) underlying99 sizeOf38 rfl rfl (by omega)) <| AT 11 rfl zh84 (fun w hS => run_ld underlying38 rfl rfl (words_cell (hS.sl (i := 1) rfl) (by omega))) <| AQ 13 rfl zh84 (run_move e0_72) <| AQ 14 rfl zh84 (run_move e0_72) <| AQ 15 rfl zh84 (run_nilCheck rfl) <| AQ 16 rfl zh84 (fA underlying102 68 rfl sizeOf99 rfl) <| AT 17 rfl zh84 (fun w hS => run_ld underlying99 rfl rfl (hS.cell (i := 3) rfl tab_w)) <| AQ 18 rfl zh84 (mV (I _) rfl) <| AT 19 rfl zh84 (fun w hS => run_indexAddrS (hS.sl (i := 1) rfl) underlying99 sizeOf38 rfl rfl (by omega)) <| AT 20 rfl zh84 (fun w hS => run_ld underlying38 rfl rfl (words_cell (hS.sl (i := 1) rfl) (by omega))) <| A1 12 <| AO.callP rfl gnone rfl hH84 sR (c_tally_table_place _ _ _ _ _ _ _ _ (hH84.blk (i := 3) rfl) (hH84.sl (i := 1) rfl)) (run_call2 call53 rfl rfl) <| fun w85 hH86 => A1 21 <| AO.callP rfl gnone rfl hH86 sR (c_tally_table_place _ _ _ _ _ _ _ _ (hH86.blk (i := 3) rfl) (hH86.sl (i := 1) rfl)) (run_call2 call53 rfl rfl) <| fun w87 hH88 => A1 22 <| AO.callP rfl gnone rfl hH88 sR (c_hasse_Join _ _ _  _ (hT.hp hH88)) (run_call3 call63 rfl rfl rfl) <| fun w89 hH90 => have zh90 := hH90.sub sR; ?_
    refine AQ 23 rfl zh90 (run_move (by conv => lhs; whnf)) ?_
    refine AQ 24 rfl zh90 (run_extract rfl (v := I _) rfl) <| AQ 25 rfl zh90 (run_extract rfl (v := B _) rfl) <| AQ 26 rfl zh90 (aV (I _) rfl) <| AQ 27 rfl zh90 (aV (B _) rfl) <| AD <| SR <| mB rfl <| RL.nil <| CW.cond rfl (fun h92 => ?_) (fun h92 => ?_)
    ·refine CW.region <| vm e5_72 <| mI rfl <| vm e0_72 <| V (run_nilCheck rfl) <| V (fA underlying102 68 rfl sizeOf99 rfl) <| V (run_ld underlying99 rfl rfl (hH90.cell (i := 3) rfl tab_w)) <| mI rfl <| V (run_indexAddrS (hH90.sl (i := 1) rfl) underlying99 sizeOf38 rfl rfl (by have := joinV_is r _ _ ‹(joinV r _ _).2 = true›; omega)) <| V (run_ld underlying38 rfl rfl (words_cell (hH90.sl (i := 1) rfl) (by have := joinV_is r _ _ ‹(joinV r _ _).2 = true›; omega))) <| V (run_indexAddrS (hH90.sl (i := 0) rfl) underlying99 sizeOf38 rfl rfl (by omega)) <| RL.rowst1 (u := U _) hH90 (i := 0) rfl (by omega) rfl rfl rfl rfl rfl (by omega) <| fun w93 hH94 => ?_
     simp only [z2] at hH94
     rw [putL_set (by rw [List.length_map]; (try rw [List.length_set]); rw [rowJ_len]; omega), set_mapU, Nat.mul_one] at hH94
     refine RL.nil <| CW.region <| V (run_add e43_72 rfl (by omega)) <| mI rfl <| RL.nil <| ?_
     refine ⟨j + 1, ?_, fr72.u4.u4.u4.u4.u4.u4.u4.u4.u4.u4.u4.u4.u4.u4.u4.u1.u1, (Hp.conv hH94 (by rw [rowJ_set2 (by omega) (joinT_yes ‹_ = true›).symm]; done)), (congrArg I (by rfl)), ?_, ?_⟩
     ·((try dsimp only); omega)
     ·omega
     ·omega
    ·refine CW.skip <| CW.region <| V (run_add e43_72 rfl (by omega)) <| mI rfl <| RL.nil <| ?_
     refine ⟨j + 1, ?_, fr72.u4.u4.u4.u4.u4.u4.u4.u4.u4.u4.u4.u4.u4, (Hp.conv hH90 (by rw [rowJ_set (by omega) (joinT_no ‹_ = false›).symm]; done)), (congrArg I (by rfl)), ?_, ?_⟩
     ·((try dsimp only); omega)
     ·omega
     ·omega
   ·refine CW.exit (id := 4) rfl <| CW.region <| vm e0_72 <| vm e0_72 <| V (run_nilCheck rfl) <| V (fA underlying102 69 rfl sizeOf100 rfl) <| V (run_ld underlying100 rfl rfl (hH72.cell (i := 3) rfl tab_j)) <| vm e5_72 <| RL.new rfl hH72 (f := fun b => (.slice (some ⟨b, 0, none⟩) 1 1)) (run_mkSl1 (v := (.slice (some ⟨b68, 0, none⟩) (pts r).toNat (pts r).toNat)) rfl underlying100 rfl rfl rfl rfl) <| fun b97 w95 hH96 => ?_
    (try simp only [clX] at hH96)
    refine RL.app rfl hH96 (i := 3) rfl (hH96.slBlk (i := 0) (n := 1) (sz := 1) rfl rfl (by decide)) rfl rfl underlying100 rfl rfl (size := 1) (bytes := 24) rfl rfl rfl (by decide) (by simp [Value.oneCell']) (by omega) (by simp only [maxLen]; omega) <| fun v98 w99 hH100 => ?_
    simp only [z2] at hH100
    refine V (run_nilCheck rfl) <| V (fA underlying102 69 rfl sizeOf100 rfl) <| RL.set hH100 (i := 4) rfl (run_st rfl rfl (v := v98) rfl (row_cells (hH100.get (i := 3) rfl)).1 (row_cells (hH100.get (i := 3) rfl)).2 (hH100.blk (i := 4) rfl) (by show _ < (tabL _ _ _ _ _).toArray.size; rw [List.size_toArray, tabL_len]; decide)) <| fun w101 hH102 => ?_
    simp only [z2] at hH102
    rw [tab_setj] at hH102
    refine RL.nil <| CW.region <| ?_
    rw [show j.toNat = (pts r).toNat by omega] at hH102
    obtain ⟨Z103, hz104, hv105, -⟩ := (hH102.perm (((pC pR).trans pS).trans (pC pR))).frz (KN)
    have hH106 : Hp _ w101 (_ :: _ :: _ :: _ :: (Z103 ++ (Zr ++ L))) := hz104.zin (L := [_, _, _, _]) (L' := (Zr ++ L))
    refine V (run_add e37_72 rfl (by omega)) <| mI rfl <| RL.nil <| ?_
    refine ⟨(i + 1, v98, rs ++ [RwU.mk (.slice (some ⟨b68, 0, none⟩) (pts r).toNat (pts r).toNat) (rowJ r i (pts r).toNat (pts r).toNat)], (Z103 ++ (Zr ++ L))), ?_, (((fr65.u4.u4).t fr72 rfl)).u4.u4.u4.u1, (Hp.conv (hH106.sub (sQ sR)) (by simp only [List.map_append, List.length_append, List.map_cons, List.map_nil, List.length_singleton]; done)), (congrArg I (by rfl)), ?_, ?_, ?_, ?_, ?_⟩
    ·((try dsimp only); omega)
    ·omega
    ·omega
    ·rw [List.map_append, hrs, joins_next i0]; rfl
    ·exact ⟨Z103 ++ Zr, (List.append_assoc _ _ _).symm, rus_more hE hv105⟩
    ·rw [List.length_append, List.length_singleton]; omega
  ·refine CW.exit (id := 2) rfl ?_
   obtain ⟨Z107, hz108, hv109, -⟩ := hH65.frz (KN)
   have hH110 : Hp _ w65 (_ :: _ :: (Z107 ++ (Zr ++ L))) := hz108.zin (L := [_, _]) (L' := (Zr ++ L))
   obtain ⟨Z111, hz112, hv113, -⟩ := hH110.frz (KN)
   have hH114 : Hp _ w65 (_ :: (Z111 ++ (Z107 ++ (Zr ++ L)))) := hz112.zin (L := [_]) (L' := (Z107 ++ (Zr ++ L)))
   have ei : i = pts r := by omega
   rw [show i.toNat = (pts r).toNat by omega] at hrs
   have hTV : TabV (Kz KN (Z111 ++ (Z107 ++ Zr))) r v1 v2 rs := ⟨hv109.mono (Le.zz (fun x hx => (List.mem_append_right _ (List.mem_append_left _ hx)))), hv113.mono (Le.zz (fun x hx => (List.mem_append_left _ hx))), fun x hx => (hE x hx).mono (Le.zz (fun x hx => (List.mem_append_right _ (List.mem_append_right _ hx)))), hrs⟩
   exact out0 Tryz.results52 ⟨rfl, v1, v2, rs, _, hTV, by simpa only [List.append_assoc] using hH114⟩
section
theorem rc_disable (w : World) : (callFunc 86 #[]).run Tryz.prog w = .ok (.value (.tuple #[])) w := run_call_mark0 Tryz.func86 (by kernel_rfl) (by kernel_rfl) (by kernel_rfl) .disable (by kernel_rfl) w
theorem rc_enable (w : World) : (callFunc 88 #[]).run Tryz.prog w = .ok (.value (.tuple #[])) w := run_call_mark0 Tryz.func88 (by kernel_rfl) (by kernel_rfl) (by kernel_rfl) .enable (by kernel_rfl) w
theorem rc_acquire (a : Addr) (w : World) : (callFunc 89 #[.pointer (some a)]).run Tryz.prog w = .ok (.value (.tuple #[])) w := run_call_marked Tryz.func89 (by kernel_rfl) (by kernel_rfl) (by kernel_rfl) .acquire (by kernel_rfl) a w
theorem rc_merge (a : Addr) (w : World) : (callFunc 91 #[.pointer (some a)]).run Tryz.prog w = .ok (.value (.tuple #[])) w := run_call_marked Tryz.func91 (by kernel_rfl) (by kernel_rfl) (by kernel_rfl) .releaseMerge (by kernel_rfl) a w
theorem on_store (a : Addr) (x : Value) (u : FrameMode) (w : World) (hc : w.cell? a = some x) (hz : w.frozen? a = false) :
  CallsD Tryz.prog 71 #[.pointer (some a), .bool true] u w fun e u' w' => u' = u ∧ (e = .returned (.tuple #[]) ∧ w' = w.drew.setCell a (.int .u32 1)) := by
 have hc' : w.drew.cell? a = some x := by go_simp
 have hz' : w.drew.frozen? a = false := by go_simp
 have hst := run_call_store (P := Tryz.prog) Tryz.func78 (by kernel_rfl) (by kernel_rfl) (by kernel_rfl) (by kernel_rfl) (k := .u32) (y := 1) hc' hz'
 go_enter_d Tryz.func71, Tryz.ntmps71
 go_wp2
 go_region_calls
 all_goals (go_end0; exact ⟨rfl, rfl⟩)
theorem on_unlock (a : Addr) (u : FrameMode) (w : World) (hc : w.cell? a = some (.int .i32 1)) (hz : w.frozen? a = false) :
  CallsD Tryz.prog 70 #[.pointer (some a)] u w fun e u' w' => u' = u ∧ (e = .returned (.tuple #[]) ∧ w' = w.setCell a (.int .i32 0)) := by
 have hd := rc_disable
 have he := rc_enable
 have hr := rc_merge
 have hadd := run_call_add (P := Tryz.prog) Tryz.func92 (by kernel_rfl) (by kernel_rfl) (by kernel_rfl) .i32 (by kernel_rfl) (y := -1) (s := 0) hc hz (by simp [go_sem]; rfl)
 have hcv := run_convert_to_unsafe (P := Tryz.prog) (src := 135) (dst := 139) underlying135 underlying139 (by kernel_rfl) hc
 go_enter_d Tryz.func70, Tryz.ntmps70
 go_wp2
 go_end0
 go_wp2
 go_end0
 exact ⟨rfl, rfl⟩
theorem on_lock (a : Addr) (w : World) (hc : w.cell? a = some (.int .i32 0)) (hz : w.frozen? a = false) :
  Calls Tryz.prog 69 #[.pointer (some a)] w fun e w' => e = .returned (.tuple #[]) ∧ w' = w.setCell a (.int .i32 1) := by
 have hd := rc_disable
 have he := rc_enable
 have ha := rc_acquire
 have hcas := run_call_cas_hit (P := Tryz.prog) Tryz.func87 (by kernel_rfl) (by kernel_rfl) (by kernel_rfl) .i32 (by kernel_rfl) (y := 1) hc hz
 have hc' : (w.setCell a (.int .i32 1)).cell? a = some (.int .i32 1) := World.cell?_setCell_same w a _ hc
 have hcv := run_convert_to_unsafe (P := Tryz.prog) (src := 135) (dst := 139) underlying135 underlying139 (by kernel_rfl) hc'
 go_enter Tryz.func69, Tryz.ntmps69
 go_wp2
 refine bodyPost_ret (results_none rfl _ _ _) rfl ?_
 go_wp2
 go_end0
 exact ⟨rfl, rfl⟩
theorem ret_inv {q : Value → World → Prop} {e : Ending} {w : World} (h : Ret q e w) : ∃ v, e = .returned v ∧ q v w := by
 cases e <;> first | exact ⟨_, rfl, h⟩ | exact h.elim
set_option maxRecDepth 100000 in
set_option maxHeartbeats 1600000 in
theorem on_slow (W0 w : World) (b : Nat) (r : Rl) (L : List Ent) (hT : Tab W0) (hH : Hp W0 w (.blk b (.cells (tabL r 0 0 (.slice none 0 0) (.slice none 0 0)).toArray 102 (0, 0)) :: L)) :
  Calls Tryz.prog 61 #[.pointer (some ⟨b, 65, none⟩), .func (.func 52) #[.pointer (some ⟨b, 0, none⟩)] #[]] w fun e w' => e = .returned (.tuple #[]) ∧ ∃ (v1 v2 : Value) (rs : List RwU) (Z : List Ent), TabV (Kz KN Z) r v1 v2 rs ∧ Hp W0 w' (.blk b (.cells (tabL r 1 0 (v1) (v2)).toArray 102 (0, 0)) :: (Z ++ L)) := by
 have h66 : w.cell? ⟨b, 65 + 1, none⟩ = some (.int .i32 0) := hH.cell (i := 0) rfl tab_s
 have f66 : w.frozen? ⟨b, 65 + 1, none⟩ = false := hH.fz (i := 0) rfl
 have hH1 := hH.setCell (i := 0) (b := b) (o := 66) (v := .int .i32 1) rfl
 simp only [List.set_cons_zero, tab_sets] at hH1
 have hl := run_call_load (P := Tryz.prog) Tryz.func68 (by kernel_rfl) (by kernel_rfl) (by kernel_rfl) .u32 (by kernel_rfl) (w := w.setCell ⟨b, 65 + 1, none⟩ (.int .i32 1)) (a := ⟨b, 65, none⟩) (x := 0) (hH1.cell (i := 0) rfl tab_d)
 have hnot : ∀ (x : Bool) (w : World), (Op.unary .not (.bool x)).run Tryz.prog w = .ok (.bool (!x)) w := fun _ _ => rfl
 go_enter_defers Tryz.func61, Tryz.ntmps61
 go_wp2_with (go_at_call 69; refine (on_lock ⟨b, 65 + 1, none⟩ _ h66 f66).mono ?_; rintro e w' ⟨rfl, rfl⟩)
 go_wp2_with (first | (go_at_call 52; refine (c_tally_table_fill W0 b r L _ hT hH1).mono ?_; intro e w' hr; obtain ⟨v, rfl, rfl, v1, v2, rs, Z, hV, hH2⟩ := ret_inv hr) | (go_at_call 60; go_in))
 refine leaves_cons (f := 71) (args := #[.pointer (some ⟨b, 65, none⟩), .bool true]) (by simp) (by simp [go_sem]) <| (on_store ⟨b, 65, none⟩ (.int .u32 0) .returning _ (hH2.cell (i := 0) rfl tab_d) (hH2.fz (i := 0) rfl)).mono <| ?_
 rintro e u' w'' ⟨rfl, rfl, rfl⟩
 have hH3 := hH2.drew.setCell (i := 0) (b := b) (o := 65) (v := .int .u32 1) rfl
 simp only [List.set_cons_zero, tab_setd] at hH3
 refine leaves_cons (f := 70) (args := #[.pointer (some ⟨b, 66, none⟩)]) (by simp [settle]) (by simp [go_sem]) <| (on_unlock ⟨b, 66, none⟩ _ _ (hH3.cell (i := 0) rfl tab_s) (hH3.fz (i := 0) rfl)).mono <| ?_
 rintro e u' w'' ⟨rfl, rfl, rfl⟩
 have hH4 := hH3.setCell (i := 0) (b := b) (o := 66) (v := .int .i32 0) rfl
 simp only [List.set_cons_zero, tab_sets] at hH4
 simp [Leaves, settle, results, Tryz.results61]
 exact ⟨v1, v2, rs, Z, hV, hH4⟩
set_option maxRecDepth 100000 in
set_option maxHeartbeats 1600000 in
theorem on_first (W0 w : World) (b : Nat) (r : Rl) (L : List Ent) (hT : Tab W0) (hH : Hp W0 w (.blk b (.cells (tabL r 0 0 (.slice none 0 0) (.slice none 0 0)).toArray 102 (0, 0)) :: L)) :
  Calls Tryz.prog 51 #[.pointer (some ⟨b, 65, none⟩), .func (.func 52) #[.pointer (some ⟨b, 0, none⟩)] #[]] w fun e w' => e = .returned (.tuple #[]) ∧ ∃ (v1 v2 : Value) (rs : List RwU) (Z : List Ent), TabV (Kz KN Z) r v1 v2 rs ∧ Hp W0 w' (.blk b (.cells (tabL r 1 0 (v1) (v2)).toArray 102 (0, 0)) :: (Z ++ L)) := by
 have hl := run_call_load (P := Tryz.prog) Tryz.func68 (by kernel_rfl) (by kernel_rfl) (by kernel_rfl) .u32 (by kernel_rfl) (hH.cell (i := 0) rfl tab_d)
 have hnot : ∀ (x : Bool) (w : World), (Op.unary .not (.bool x)).run Tryz.prog w = .ok (.bool (!x)) w := fun _ _ => rfl
 go_enter Tryz.func51, Tryz.ntmps51
 go_wp2_with (first | (go_at_call 61; refine (on_slow W0 _ b r L hT hH).mono ?_; rintro e w' ⟨rfl, hq⟩) | (go_at_call 60; go_in))
 go_end0
 exact ⟨rfl, hq⟩
theorem on_done (w : World) (b : Nat) (fv : Value) (h0 : w.cell? ⟨b, 65, none⟩ = some (.int .u32 1)) :
  Calls Tryz.prog 51 #[.pointer (some ⟨b, 65, none⟩), fv] w fun e w' => e = .returned (.tuple #[]) ∧ w' = w := by
 have hl := run_call_load (P := Tryz.prog) Tryz.func68 (by kernel_rfl) (by kernel_rfl) (by kernel_rfl) .u32 (by kernel_rfl) h0
 have hnot : ∀ (x : Bool) (w : World), (Op.unary .not (.bool x)).run Tryz.prog w = .ok (.bool (!x)) w := fun _ _ => rfl
 go_enter Tryz.func51, Tryz.ntmps51
 go_wp2
 go_end0
 exact ⟨rfl, rfl⟩
theorem c_once (W0 w : World) (b : Nat) (r : Rl) (Z L : List Ent) (hT : Tab W0) (hZ : TbZ 102 r b Z) (hH : Hp W0 w (Z ++ L)) :
  Calls Tryz.prog 51 #[.pointer (some ⟨b, 65, none⟩), .func (.func 52) #[.pointer (some ⟨b, 0, none⟩)] #[]] w (Ret fun u w' => u = .tuple #[] ∧ ∃ (v1 v2 : Value) (rs : List RwU) (Z : List Ent), TabV (Kz KN Z) r v1 v2 rs ∧ Hp W0 w' (.blk b (.cells (tabL r 1 0 (v1) (v2)).toArray 102 (0, 0)) :: (Z ++ L))) := by
 rcases hZ with rfl | ⟨v1, v2, rs, Zr, rfl, hV⟩
 ·exact (on_first W0 w b r L hT hH).mono fun e w' ⟨he, hq⟩ => by subst he; exact ⟨rfl, hq⟩
 ·exact (on_done w b _ (hH.cell (i := 0) rfl tab_d)).mono fun e w' ⟨he, hw⟩ => by subst he hw; exact ⟨rfl, v1, v2, rs, Zr, hV, hH⟩
end
theorem c_tally_table_raise (W0 : World) (b : Nat) (r : Rl) (Z L : List Ent) (a c : BitVec 64) (w : World) (hT : Tab W0) (hZ : TbZ 102 r b Z) (hH : Hp W0 w (Z ++ L)) : Calls Tryz.prog 41 #[.pointer (some ⟨b, 0, none⟩), U a, U c] w (Ret fun u w' => u = U (raiseV r a c) ∧ ∃ Z', TbZ 102 r b Z' ∧ Hp W0 w' (Z' ++ L)) := by
 refine enter Tryz.func41 rfl Tryz.ntmps41 rfl <| SR <| va (v := U 0#64) rfl <| RL.nil <| SR <| vm (v := Pn _ _) rfl <| V (run_nilCheck rfl) <| V (fA underlying102 65 rfl sizeOf98 rfl) <| vm (v := Pn _ _) rfl <| V (run_mkM1 (v := Pn _ _) rfl) <| RL.callT rfl (c_once W0 _ b r Z L hT hZ hH) (run_call2 call51 rfl rfl) <| ?_
 rintro _ w1 ⟨rfl, v1, v2, rs, Zr, hV, hH2⟩
 have ha := pl_bd r a
 have hc := pl_bd r c
 have hln := hV.len
 have hp := pts_bd r
 refine RL.nil <| SR <| vm (v := Pn _ _) rfl <| mU rfl <| RL.callP rfl hH2 (c_tally_table_place _ _ _ _ _ _ _ _ (hH2.blk (i := 0) rfl) ((hV.words).mono (hH2.kz KN.le (fun x hx => (mT (List.mem_append_left _ hx))))).sl) (run_call2 call53 rfl rfl) <| fun w3 hH4 => vm (v := Pn _ _) rfl <| mU rfl <| RL.callP rfl hH4 (c_tally_table_place _ _ _ _ _ _ _ _ (hH4.blk (i := 0) rfl) ((hV.words).mono (hH4.kz KN.le (fun x hx => (mT (List.mem_append_left _ hx))))).sl) (run_call2 call53 rfl rfl) <| fun w5 hH6 => aI rfl <| aI rfl <| RL.nil <| CW.seq <| SR <| mI rfl <| V (run_lss rfl rfl) <| mB rfl <| RL.splitP (dj := 23) rfl (fun h8 => ?_) (fun h8 => ?_)
 ·refine gF rfl (bT h8) <| gF rfl (bT h8) <| V (run_pickT (bT h8) (v := B true) rfl) <| RL.nil <| CW.condT rfl <| SR <| mU rfl <| mU rfl <| V (run_orU rfl rfl) <| aU rfl <| RL.nil <| CW.ret <| out1 Tryz.results41 (v := U (raiseV r a c)) (Eq.trans rfl (congrArg U (by exact raise_out (by omega)))) ⟨rfl, _, .inr ⟨v1, v2, rs, Zr, rfl, hV⟩, hH6⟩
 ·refine gT rfl (bF h8) <| mI rfl <| gT rfl (bF h8) <| V (run_lss rfl rfl) <| V (run_pickF (bF h8) (v := B _) rfl) <| RL.nil <| CW.condP rfl (fun h10 => ?_) (fun h10 => ?_)
  ·refine SR <| mU rfl <| mU rfl <| V (run_orU rfl rfl) <| aU rfl <| RL.nil <| CW.ret <| out1 Tryz.results41 (v := U (raiseV r a c)) (Eq.trans rfl (congrArg U (by exact raise_out (by omega)))) ⟨rfl, _, .inr ⟨v1, v2, rs, Zr, rfl, hV⟩, hH6⟩
  ·refine CW.skip <| SR <| have hrw := (hV.row (i := plW r a) (by omega)).1; have hrl : (rs.getD (plW r a).toNat ru0).l.length = (pts r).toNat := (by rw [hrw, rowJ_len]); vm (v := Pn _ _) rfl <| V (run_nilCheck rfl) <| V (fA underlying102 69 rfl sizeOf100 rfl) <| V (run_ld underlying100 rfl rfl (hH6.cell (i := 0) rfl tab_j)) <| mI rfl <| V (run_indexAddrS ((hV.joins).mono (hH6.kz KN.le (fun x hx => (mT (List.mem_append_left _ hx))))).sl underlying100 sizeOf99 rfl rfl (by omega)) <| V (run_ld underlying99 rfl rfl (((hV.joins).mono (hH6.kz KN.le (fun x hx => (mT (List.mem_append_left _ hx))))).sl.cell _ _ (rus_at (by omega)))) <| mI rfl <| V (run_indexAddrS (((hV.row (by omega)).2).mono (hH6.kz KN.le (fun x hx => (mT (List.mem_append_left _ hx))))).sl underlying99 sizeOf38 rfl rfl (by omega)) <| V (run_ld underlying38 rfl rfl ((((hV.row (by omega)).2).mono (hH6.kz KN.le (fun x hx => (mT (List.mem_append_left _ hx))))).sl.atU (by omega) (by omega))) <| aU rfl <| RL.nil <| CW.ret <| out1 Tryz.results41 (v := U (raiseV r a c)) (Eq.trans rfl (congrArg U (by rw [hrw, rowJ_at (by omega)]; exact raise_in (by omega)))) ⟨rfl, _, .inr ⟨v1, v2, rs, Zr, rfl, hV⟩, hH6⟩
theorem c_tally_joiner_1 (W0 : World) (B : Nat) (tb : TbM) (tl : List (Nat × Rl)) (Z R : List Ent) (a c : El) (w : World) (hT : Tab W0) (htl : ∀ i, i < 8 → ∀ p, tb i = some p → p ∈ tl) (hB : Kz (Kw W0) R B (.cells (tbL tb).toArray 88 (0, 0))) (hZ : TblZ 102 tl Z) (hH : Hp W0 w (Z ++ R)) : Calls Tryz.prog 40 #[.agg (elC a), .agg (elC c), .pointer (some ⟨B, 0, none⟩)] w (Ret fun u w' => u = .agg (elC (joinTb tb a c)) ∧ ∃ Z', TblZ 102 tl Z' ∧ Hp W0 w' (Z' ++ R)) := by
 refine enter Tryz.func40 rfl Tryz.ntmps40 rfl <| SR <| RL.new rfl hH (f := fun b => (.pointer (some ⟨b, 0, none⟩))) (run_box (v := .agg _) rfl) <| fun b3 w1 hH2 => RL.new rfl hH2 (f := fun b => (.pointer (some ⟨b, 0, none⟩))) (run_box (v := .agg _) rfl) <| fun b6 w4 hH5 => RL.new rfl hH5 (f := fun b => (.pointer (some ⟨b, 0, none⟩))) (run_alloc zero_el) <| fun b9 w7 hH8 => RL.nil <| CW.seq <| SR <| V (run_ldA (cs := tbL tb) underlying88 rfl rfl rfl (rangeAt_cells (hH8.kz (Le.refl _) (fun x hx => (mT (mT (mT (List.mem_append_right _ hx))))) _ _ hB))) <| vm (v := I 0) rfl <| RL.nil <| CW.block <| CW.loop (G := Int × El × (List Ent)) (fun ⟨k, e1, Z1⟩ s' w' => (Fr (6 :: 7 :: (rg 9 25 [])) _ s') ∧ (Hp W0 w' (_ :: _ :: .blk b3 (.cells (elC e1) 40 (0, 0)) :: Z1)) ∧ (s' 9 = I k) ∧ (0 ≤ k) ∧ (k ≤ 8) ∧ (e1 = mixE (joinTb tb a c) a k) ∧ (∃ Zt, Z1 = Zt ++ R ∧ TblZ 102 tl Zt)) (fun ⟨k, e1, Z1⟩ => (8 - k).toNat) ((0, a, (Z ++ R))) ⟨Fr.refl _ _, hH8, rfl, (by omega), (by omega), (mix_zero _ _).symm, ⟨_, rfl, hZ⟩⟩ <| ?_
 rintro ⟨k, e1, Z1⟩ sg10 w10 ⟨fr10, hH10, e9_10, h0, hk, hr, hS⟩
 have e3_10 := fr10.pp 3 rfl rfl
 have e4_10 := fr10.pp 4 rfl rfl
 have e5_10 := fr10.pp 5 rfl rfl
 have e8_10 := fr10.aa 8 rfl rfl
 obtain ⟨Zt, rfl, hZt⟩ := hS
 refine SR <| V (run_lss e9_10 rfl) <| RL.nil <| CW.seq <| CW.condP rfl (fun h12 => ?_) (fun h12 => ?_)
 ·refine CW.skip <| CW.seq <| CW.block <| SR <| vm e9_10 <| V (run_indexA underlying88 isAgg87 sizeOf87 e8_10 e9_10 (by omega) (tbL_ix _ (by omega))) <| aI rfl <| ?_
  refine V (run_assign (by conv => lhs; whnf)) ?_
  refine RL.nil <| CW.seq <| SR <| ?_
  refine V (run_move (by conv => lhs; whnf)) ?_
  refine V (run_neqTb underlying87 rfl rfl) <| RL.nil <| CW.cond rfl (fun h14 => ?_) (fun h14 => ?_)
  ·refine CW.seq <| CW.regionS (by kernel_rfl) hH10 (sP (sP (sQ (sA sR)))) <| fun w15 hH16 => have zh16 := hH16.sub (sP (sP (sQ (sA sR)))); AQ 0 rfl zh16 (mV (I _) rfl) <| ?_
   refine AQ 1 rfl zh16 (run_move (by conv => lhs; whnf)) ?_
   refine AQ 2 rfl zh16 (mV (I _) rfl) <| AQ 3 rfl zh16 (run_indexAddrA underlying40 sizeOf38 e3_10 rfl (by omega)) <| AQ 5 rfl zh16 (mV (I _) rfl) <| AQ 6 rfl zh16 (run_indexAddrA underlying40 sizeOf38 e4_10 rfl (by omega)) <| AT 7 rfl zh16 (fun w hS => run_ld underlying38 rfl rfl (hS.cell (i := 1) rfl (elC_at _ (by omega)))) <| A1 4 <| AO.read rfl gnone rfl hH16 (sP (sP (sQ (sA sR)))) (run_ld underlying38 rfl rfl (hH16.cell (i := 2) rfl (elC_at _ (by omega)))) <| A1 8 <| ?_
   obtain ⟨⟨bi, ri⟩, hi⟩ := Option.isSome_iff_exists.1 ‹(tb k.toNat).isSome = true›
   obtain ⟨z27, Y22, hz23, hp24, hq25⟩ := hZt.pick (htl _ (by omega) _ hi)
   refine AO.callT rfl gnone rfl (c_tally_table_raise W0 bi ri z27 (Y22 ++ ([_, _, _] ++ R)) _ _ _ hT hz23 (Hp.pickT (A := [_, _, _]) hH16 hp24)) (run_call3 call41 (congrArg ptrT hi) rfl rfl) (fun u w' ⟨_, z', hz', h⟩ => let ⟨Z', _, q2⟩ := hq25 z' hz'; Hp.sub (L := _ :: _ :: _ :: (Z' ++ R)) (Hp.backT (A := [_, _, _]) h q2) (sP (sP (sQ (sA sR))))) ?_
   rintro _ w26 ⟨rfl, z34, hy28, h29⟩
   obtain ⟨Zn30, hZ31, hk32⟩ := hq25 z34 hy28
   have hH33 : Hp _ w26 (_ :: _ :: _ :: (Zn30 ++ R)) := Hp.backT (A := [_, _, _]) h29 hk32
   refine AQ 9 rfl (hH33.sub (sP (sP (sQ (sA sR))))) (run_indexAddrA underlying40 sizeOf38 e3_10 rfl (by omega)) <| A1 10 <| AO.set rfl gnone hH33 (j := 2) rfl (sP (sP (sQ (sA sR)))) (run_st rfl rfl (v := U _) rfl rfl rfl (hH33.blk (i := 2) rfl) (by rw [elC_size]; omega)) <| fun w37 hH38 => ?_
   simp only [z2] at hH38
   rw [elC_put] at hH38
   refine AD <| CW.exit (id := 1) rfl <| CW.region <| V (run_add e9_10 rfl (by omega)) <| mI rfl <| RL.nil <| ?_
   refine ⟨(k + 1, _, (Zn30 ++ R)), ?_, fr10.u4.u4.u4.u4.u1.u1.u1, hH38, (congrArg I (by rfl)), ?_, ?_, ?_, ?_⟩
   ·((try dsimp only); omega)
   ·omega
   ·omega
   ·exact jt_yes hr h0 hi
   ·exact ⟨_, rfl, hZ31⟩
  ·refine CW.skip <| CW.regionS (by kernel_rfl) hH10 (sP (sP (sQ sR))) <| fun w39 hH40 => have zh40 := hH40.sub (sP (sP (sQ sR))); AQ 0 rfl zh40 (mV (I _) rfl) <| AQ 1 rfl zh40 (run_indexAddrA underlying40 sizeOf38 e3_10 rfl (by omega)) <| AQ 3 rfl zh40 (mV (I _) rfl) <| AQ 4 rfl zh40 (run_indexAddrA underlying40 sizeOf38 e4_10 rfl (by omega)) <| AT 5 rfl zh40 (fun w hS => run_ld underlying38 rfl rfl (hS.cell (i := 1) rfl (elC_at _ (by omega)))) <| A1 2 <| AO.read rfl gnone rfl hH40 (sP (sP (sQ sR))) (run_ld underlying38 rfl rfl (hH40.cell (i := 2) rfl (elC_at _ (by omega)))) <| AQ 6 rfl zh40 (run_orU rfl rfl) <| AQ 7 rfl zh40 (run_indexAddrA underlying40 sizeOf38 e3_10 rfl (by omega)) <| A1 8 <| AO.set rfl gnone hH40 (j := 2) rfl (sP (sP (sQ sR))) (run_st rfl rfl (v := U _) rfl rfl rfl (hH40.blk (i := 2) rfl) (by rw [elC_size]; omega)) <| fun w45 hH46 => ?_
   simp only [z2] at hH46
   rw [elC_put] at hH46
   refine AD <| CW.region <| V (run_add e9_10 rfl (by omega)) <| mI rfl <| RL.nil <| ?_
   refine ⟨(k + 1, _, (Zt ++ R)), ?_, fr10.u4.u4.u4.u4.u1, hH46, (congrArg I (by rfl)), ?_, ?_, ?_, ?_⟩
   ·((try dsimp only); omega)
   ·omega
   ·omega
   ·exact jt_no hr h0 ‹(tb k.toNat).isSome = false›
   ·exact ⟨_, rfl, hZt⟩
 ·refine CW.exit (id := 0) rfl <| SR <| V (run_ldEl underlying40 rfl rfl e3_10 (hH10.blk (i := 2) rfl)) <| RL.set hH10 (i := 0) rfl (run_stEl rfl e5_10 rfl (hH10.blk (i := 0) rfl)) <| fun w47 hH48 => ?_
  simp only [z2] at hH48
  refine RL.nil <| CW.ret <| outCg Tryz.results40 e5_10 hH48 (i := 0) rfl underlying40 rfl (by rw [elC_size]; rfl) ⟨congrArg Value.agg (elC_congr (by rw [hr]; exact mix_all ‹_›)), Zt, hZt, hH48.sub (sQ (sQ (sQ sR)))⟩
theorem c_tally_joiner (s : Shp) (w : World) (hs : ShpV (Kw w) s) : Calls Tryz.prog 21 #[.agg (shpC s)] w (Ret fun u w' => ∃ (B : Nat) (tb : TbM) (tl : List (Nat × Rl)) (Zt : List Ent), u = .func (.func 40) #[] #[.pointer (some ⟨B, 0, none⟩)] ∧ TbOf s.sh tb ∧ (∀ i, i < 8 → ∀ p, tb i = some p → p ∈ tl) ∧ TblZ 102 tl Zt ∧ Hp w w' (Zt ++ [.blk B (.cells (tbL tb).toArray 88 (0, 0))])) := by
 have hm1 := hs.facs.small
 unfold maxLen at hm1
 refine enter Tryz.func21 rfl Tryz.ntmps21 rfl <| have hH := Hp.start w; SR <| RL.new rfl hH (f := fun b => (.pointer (some ⟨b, 0, none⟩))) (run_box (v := .agg _) rfl) <| fun b3 w1 hH2 => va (v := .nilFunc) rfl <| RL.nil <| SR <| RL.new rfl hH2 (f := fun b => (.pointer (some ⟨b, 0, none⟩))) (run_alloc Tryz.zeroValue88) <| fun b6 w4 hH5 => RL.nil <| CW.seq <| SR <| V (fA underlying24 1 rfl sizeOf22 rfl) <| V (run_ld underlying22 rfl rfl (hH5.cell (i := 1) rfl rfl)) <| V (run_lenSl (hs.facs.sl.hp hH5) rfl underlying22 rfl) <| vm (v := I 0) rfl <| RL.nil <| CW.block <| CW.loop (G := Int × (List (Nat × Rl)) × TbM × (List Ent)) (fun ⟨k, tl, tb, Z⟩ s' w' => (Fr (4 :: 5 :: (rg 9 19 [])) _ s') ∧ (Hp w w' (.blk b6 (.cells ((tbL tb).toArray) 88 (0, 0)) :: _ :: Z)) ∧ (s' 9 = I k) ∧ (0 ≤ k) ∧ (k ≤ s.facs.length) ∧ (TbTo s.sh k tb) ∧ (∀ i, i < 8 → ∀ p, tb i = some p → p ∈ tl) ∧ (TblZ 102 tl Z)) (fun ⟨k, tl, tb, Z⟩ => (s.facs.length - k).toNat) ((0, [], tb0, [])) ⟨Fr.refl _ _, hH5, rfl, (by omega), (by omega), TbTo.start _, (fun i _ p hp => (by cases hp)), rfl⟩ <| ?_
 rintro ⟨k, tl, tb, Z⟩ sg7 w7 ⟨fr7, hH7, e9_7, h0, hk, hTo, htl, hZ⟩
 have e3_7 := fr7.pp 3 rfl rfl
 have e7_7 := (fr7 7 rfl).trans (by conv => lhs; whnf)
 have e8_7 := fr7.ii 8 rfl rfl
 refine SR <| V (run_lss e9_7 e8_7) <| RL.nil <| CW.seq <| CW.condP rfl (fun h9 => ?_) (fun h9 => ?_)
 ·refine CW.skip <| CW.seq <| CW.block <| SR <| vm e9_7 <| V (run_indexAddrS (hs.facs.sl.hp hH7) underlying22 sizeOf61 e7_7 e9_7 (by omega)) <| V (run_ldE (dv := fac0) facL_len (hs.facs.sl.hp hH7) underlying61 rfl rfl rfl (by omega)) <| RL.new rfl hH7 (f := fun b => (.pointer (some ⟨b, 0, none⟩))) (run_alloc zero_fac) <| fun b12 w10 hH11 => aI rfl <| RL.set hH11 (i := 0) rfl (run_stFac (hs.at (by omega) (by omega)) rfl rfl rfl (hH11.blk (i := 0) rfl)) <| fun w13 hH14 => ?_
  simp only [z2] at hH14
  refine RL.nil <| SR <| mI rfl <| V (run_lss rfl rfl) <| mB rfl <| RL.splitP (dj := 16) rfl (fun h16 => ?_) (fun h16 => ?_)
  ·refine gT rfl (bT h16) <| V (fA underlying61 0 rfl sizeOf3 rfl) <| gT rfl (bT h16) <| V (run_ld underlying3 rfl rfl (hH14.cell (i := 0) rfl (v := I _) rfl)) <| gT rfl (bT h16) <| V (run_eql rfl rfl) <| V (run_pickT (bT h16) (v := B _) rfl) <| RL.nil <| CW.condP rfl (fun h18 => ?_) (fun h18 => ?_)
   ·refine CW.region <| mI rfl <| V (fA underlying61 2 rfl sizeOf59 rfl) <| V (run_ldBR underlying59 rfl rfl rfl (hH14.blk (i := 0) rfl)) <| V (run_bld (vs := [(0, .agg (relC _))]) rfl (built_tab _)) <| RL.new rfl hH14 (f := fun b => (.pointer (some ⟨b, 0, none⟩))) (run_box (v := .agg _) rfl) <| fun b21 w19 hH20 => V (run_indexAddrA underlying88 sizeOf87 e3_7 rfl (by omega)) <| RL.set hH20 (i := 2) rfl (run_st rfl rfl (v := Pn _ _) rfl rfl rfl (hH20.blk (i := 2) rfl) (by rw [List.size_toArray, tbL_len]; omega)) <| fun w22 hH23 => ?_
    simp only [z2] at hH23
    rw [tbL_put2 tb (s.facs.getD k.toNat fac0).rel] at hH23
    have hH24 : Hp _ w22 (_ :: _ :: _ :: ([Ent.blk b21 (.cells (tabL (s.facs.getD k.toNat fac0).rel 0 0 (.slice none 0 0) (.slice none 0 0)).toArray 102 (0, 0))] ++ Z)) := Hp.zin (Z := [Ent.blk b21 (.cells (tabL (s.facs.getD k.toNat fac0).rel 0 0 (.slice none 0 0) (.slice none 0 0)).toArray 102 (0, 0))]) (L := [_, _, _]) (L' := Z) hH23
    refine RL.nil <| CW.region <| V (run_add e9_7 rfl (by omega)) <| mI rfl <| RL.nil <| ?_
    refine ⟨(k + 1, ((b21, (s.facs.getD k.toNat fac0).rel) :: tl), putT tb k.toNat (b21, (s.facs.getD k.toNat fac0).rel), ([Ent.blk b21 (.cells (tabL (s.facs.getD k.toNat fac0).rel 0 0 (.slice none 0 0) (.slice none 0 0)).toArray 102 (0, 0))] ++ Z)), ?_, fr7.u4.u4.u4.u4.u4.u1, (Hp.conv (hH24.sub (sQ sR)) (by rfl)), (congrArg I (by rfl)), ?_, ?_, ?_, ?_, ?_⟩
    ·((try dsimp only); omega)
    ·omega
    ·omega
    ·exact hTo.put h0 (by rw [sh_len]; omega) (by rw [sh_get]; assumption) (by rw [sh_get]; rfl)
    ·exact mem_put htl
    ·exact TblZ.cons hZ
   ·refine CW.skip <| CW.region <| V (run_add e9_7 rfl (by omega)) <| mI rfl <| RL.nil <| ?_
    refine ⟨(k + 1, tl, tb, Z), ?_, fr7.u4.u4.u4.u1.u1.u1, (Hp.conv (hH14.sub (sQ sR)) (by rfl)), (congrArg I (by rfl)), ?_, ?_, ?_, ?_, ?_⟩
    ·((try dsimp only); omega)
    ·omega
    ·omega
    ·exact hTo.skip h0 (by rw [sh_get]; intro q; have q2 : (s.facs.getD k.toNat fac0).kind = 4 := q.2; omega)
    ·exact htl
    ·exact hZ
  ·refine gF rfl (bF h16) <| gF rfl (bF h16) <| gF rfl (bF h16) <| V (run_pickF (bF h16) (v := B false) rfl) <| RL.nil <| CW.condF rfl <| CW.skip <| CW.region <| V (run_add e9_7 rfl (by omega)) <| mI rfl <| RL.nil <| ?_
   refine ⟨(k + 1, tl, tb, Z), ?_, fr7.u4.u4.u4.u1.u1.u1, (Hp.conv (hH14.sub (sQ sR)) (by rfl)), (congrArg I (by rfl)), ?_, ?_, ?_, ?_, ?_⟩
   ·((try dsimp only); omega)
   ·omega
   ·omega
   ·exact hTo.skip h0 (by rw [sh_get]; intro q; have q2 : (s.facs.getD k.toNat fac0).kind = 4 := q.2; omega)
   ·exact htl
   ·exact hZ
 ·refine CW.exit (id := 0) rfl <| SR <| V (run_mkF1 e3_7) <| va (v := .func _ _ _) rfl <| RL.nil <| CW.ret <| out1 Tryz.results21 (v := .func (.func 40) #[] #[.pointer (some ⟨b6, 0, none⟩)]) rfl ⟨b6, tb, tl, Z, rfl, hTo.all (by rw [sh_len]; omega), htl, hZ, (hH7.sub (sP (sQ sR))).perm (List.perm_append_comm (l₁ := [_]))⟩
theorem c_sync_atomic_Int64_Add (W0 : World) (m off : Nat) (C : Array Value) (te : TypeId) (x : Int) (L : List Ent) (hx : -9000000000000000000 ≤ x ∧ x ≤ 9000000000000000000) (hc : C[off]? = some (I x)) (w : World) (hH : Hp W0 w (.blk m (.cells C te (0, 0)) :: L)) : Calls Tryz.prog 27 #[.pointer (some ⟨m, off, none⟩), I 1] w (Ret fun u w' => u = I (x + 1) ∧ Hp W0 w' (.blk m (.cells (C.setIfInBounds off (I (x + 1))) te (0, 0)) :: L)) := by
 refine enter Tryz.func27 rfl Tryz.ntmps27 rfl <| SR <| va (v := I 0) rfl <| RL.nil <| SR <| vm (v := Pn _ _) rfl <| V (run_nilCheck rfl) <| V (fA underlying71 0 rfl sizeOf2 rfl) <| mI rfl <| V (run_callN2 (run_call_add (P := Tryz.prog) Tryz.func46 (by kernel_rfl) (by kernel_rfl) (by kernel_rfl) .i64 (by kernel_rfl) (hH.cell (i := 0) rfl hc) (hH.fz (i := 0) rfl) (add_i64 (by omega))) rfl rfl) <| have hH2 := hH.setCell (i := 0) (b := m) (o := off) (v := I (x + 1)) rfl; ?_
 simp only [List.set_cons_zero] at hH2
 refine aI rfl <| RL.nil <| CW.ret <| out1 Tryz.results27 (v := I (x + 1)) rfl ⟨rfl, hH2⟩
theorem c_sync_atomic_Int64_Store (W0 : World) (m off : Nat) (C : Array Value) (te : TypeId) (x : Int) (L : List Ent) (hc : C[off]? = some (I x)) (w : World) (hH : Hp W0 w (.blk m (.cells C te (0, 0)) :: L)) : Calls Tryz.prog 34 #[.pointer (some ⟨m, off, none⟩), I 0] w (Ret fun u w' => u = .tuple #[] ∧ Hp W0 w' (.blk m (.cells (C.setIfInBounds off (I 0)) te (0, 0)) :: L)) := by
 refine enter Tryz.func34 rfl Tryz.ntmps34 rfl <| CW.region <| vm (v := Pn _ _) rfl <| V (run_nilCheck rfl) <| V (fA underlying71 0 rfl sizeOf2 rfl) <| mI rfl <| V (run_callN2 (run_call_store (P := Tryz.prog) Tryz.func47 (by kernel_rfl) (by kernel_rfl) (by kernel_rfl) (by kernel_rfl) (hH.cell (i := 0) rfl hc) (hH.fz (i := 0) rfl)) rfl rfl) <| have hH2 := hH.setCell (i := 0) (b := m) (o := off) (v := I 0) rfl; ?_
 simp only [List.set_cons_zero] at hH2
 refine RL.nil <| out0 Tryz.results34 ⟨rfl, hH2⟩
theorem c_sync_atomic_Int64_Load (m off : Nat) (C : Array Value) (te : TypeId) (x : Int) (hc : C[off]? = some (I x)) (w : World) (hb : w.heap[m]? = some (.cells C te (0, 0))) : Calls Tryz.prog 35 #[.pointer (some ⟨m, off, none⟩)] w (Pure (I x) w) := by
 refine enter Tryz.func35 rfl Tryz.ntmps35 rfl <| have hH := Hp.start w; SR <| va (v := I 0) rfl <| RL.nil <| SR <| vm (v := Pn _ _) rfl <| V (run_nilCheck rfl) <| V (fA underlying71 0 rfl sizeOf2 rfl) <| V (run_callN1 (run_call_load (P := Tryz.prog) Tryz.func48 (by kernel_rfl) (by kernel_rfl) (by kernel_rfl) .i64 (by kernel_rfl) (cellK hb hc)) rfl) <| aI rfl <| RL.nil <| CW.ret <| outP1 Tryz.results35 (congrArg I ?_) hH.below
 rfl
theorem c_tally_Meter_counts (m : Nat) (c : Cn) (w : World) (hb : w.heap[m]? = some (.cells #[B true, I c.e, I c.l, I c.j] 73 (0, 0))) : Calls Tryz.prog 26 #[.pointer (some ⟨m, 0, none⟩)] w (Pure (B true) w) := by
 refine enter Tryz.func26 rfl Tryz.ntmps26 rfl <| have hH := Hp.start w; SR <| va (v := B false) rfl <| RL.nil <| SR <| vm (v := Pn _ _) rfl <| V (run_neqTb (o := some (_, Rl.none)) underlying48 rfl rfl) <| mB rfl <| gT rfl rfl <| vm (v := Pn _ _) rfl <| gT rfl rfl <| V (run_nilCheck rfl) <| gT rfl rfl <| V (fA underlying73 0 rfl sizeOf4 rfl) <| gT rfl rfl <| V (run_ld underlying4 rfl rfl (hH.extCell hb (v := B _) rfl)) <| V (run_pickT rfl (v := B _) rfl) <| aB rfl <| RL.nil <| CW.ret <| outP1 Tryz.results26 (congrArg B ?_) hH.below
 rfl
theorem c_tally_Meter_Read (m : Nat) (c : Cn) (w : World) (hb : w.heap[m]? = some (.cells #[B true, I c.e, I c.l, I c.j] 73 (0, 0))) : Calls Tryz.prog 15 #[.pointer (some ⟨m, 0, none⟩)] w (Pure (.agg #[I c.e, I c.l, I c.j]) w) := by
 refine enter Tryz.func15 rfl Tryz.ntmps15 rfl <| have hH := Hp.start w; SR <| RL.new rfl hH (f := fun b => (.pointer (some ⟨b, 0, none⟩))) (run_alloc Tryz.zeroValue52) <| fun b3 w1 hH2 => RL.nil <| CW.seq <| SR <| vm (v := Pn _ _) rfl <| RL.callP rfl hH2 (c_tally_Meter_counts _ _ _ (hH2.ext hb)) (run_call1 call26 rfl) <| fun w4 hH5 => V (run_not rfl) <| RL.nil <| CW.condF rfl <| CW.skip <| CW.seq <| CW.regionS (by kernel_rfl) hH5 (sQ sR) <| fun w7 hH8 => have zh8 := hH8.sub (sQ sR); AQ 0 rfl zh8 (mV (Pn _ _) rfl) <| AQ 1 rfl zh8 (run_nilCheck rfl) <| AQ 2 rfl zh8 (fA underlying73 1 rfl sizeOf71 rfl) <| AQ 4 rfl zh8 (mV (Pn _ _) rfl) <| AQ 5 rfl zh8 (run_nilCheck rfl) <| AQ 6 rfl zh8 (fA underlying73 2 rfl sizeOf71 rfl) <| AQ 8 rfl zh8 (mV (Pn _ _) rfl) <| AQ 9 rfl zh8 (run_nilCheck rfl) <| AQ 10 rfl zh8 (fA underlying73 3 rfl sizeOf71 rfl) <| A1 3 <| AO.callP rfl gnone rfl hH8 (sQ sR) (c_sync_atomic_Int64_Load _ 1 _ _ c.e rfl _ (hH8.ext hb)) (run_call1 call35 rfl) <| fun w9 hH10 => A1 7 <| AO.callP rfl gnone rfl hH10 (sQ sR) (c_sync_atomic_Int64_Load _ 2 _ _ c.l rfl _ (hH10.ext hb)) (run_call1 call35 rfl) <| fun w11 hH12 => A1 11 <| AO.callP rfl gnone rfl hH12 (sQ sR) (c_sync_atomic_Int64_Load _ 3 _ _ c.j rfl _ (hH12.ext hb)) (run_call1 call35 rfl) <| fun w13 hH14 => AQ 12 rfl (hH14.sub (sQ sR)) (run_bld (vs := [(0, I _), (1, I _), (2, I _)]) rfl (built_cnt _ _ _)) <| A1 13 <| AO.set rfl gnone hH14 (j := 0) rfl (sQ sR) (run_stW rfl rfl rfl (by simp [Value.oneCell']) (hH14.blk (i := 0) rfl) rfl) <| fun w17 hH18 => ?_
 simp only [z2] at hH18
 refine AD <| CW.ret <| outCg Tryz.results15 rfl hH18 (i := 0) rfl underlying52 rfl rfl ⟨?_, hH18.below⟩
 rfl
theorem c_tally_New  (w : World) : Calls Tryz.prog 12 #[] w (Ret fun u w' => ∃ m, u = pt m ∧ Hp w w' [blkM TX m cn0]) := by
 refine enter Tryz.func12 rfl Tryz.ntmps12 rfl <| have hH := Hp.start w; SR <| va (v := .pointer none) rfl <| RL.nil <| SR <| V (run_bld (vs := [(0, B true)]) rfl built_met) <| RL.new rfl hH (f := fun b => (.pointer (some ⟨b, 0, none⟩))) (run_box (v := .agg _) rfl) <| fun b3 w1 hH2 => va (v := Pn _ _) rfl <| RL.nil <| CW.ret <| out1 Tryz.results12 (v := pt b3) rfl ⟨b3, rfl, hH2⟩
theorem c_tally_Meter_Wrap_2_1 (m : Nat) (w : World) : Calls Tryz.prog 29 #[.pointer (some ⟨m, 0, none⟩)] w (Pure (.pointer (some ⟨m, 1, none⟩)) w) := by
 refine enter Tryz.func29 rfl Tryz.ntmps29 rfl <| have hH := Hp.start w; SR <| va (v := .pointer none) rfl <| RL.nil <| SR <| vm (v := Pn _ _) rfl <| V (run_nilCheck rfl) <| V (fA underlying73 1 rfl sizeOf71 rfl) <| va (v := Pn _ _) rfl <| RL.nil <| CW.ret <| outP1 Tryz.results29 ?_ hH.below
 rfl
theorem c_tally_Meter_Wrap_3_1 (m : Nat) (w : World) : Calls Tryz.prog 31 #[.pointer (some ⟨m, 0, none⟩)] w (Pure (.pointer (some ⟨m, 2, none⟩)) w) := by
 refine enter Tryz.func31 rfl Tryz.ntmps31 rfl <| have hH := Hp.start w; SR <| va (v := .pointer none) rfl <| RL.nil <| SR <| vm (v := Pn _ _) rfl <| V (run_nilCheck rfl) <| V (fA underlying73 2 rfl sizeOf71 rfl) <| va (v := Pn _ _) rfl <| RL.nil <| CW.ret <| outP1 Tryz.results31 ?_ hH.below
 rfl
theorem c_tally_Meter_Wrap_4_1 (m : Nat) (w : World) : Calls Tryz.prog 33 #[.pointer (some ⟨m, 0, none⟩)] w (Pure (.pointer (some ⟨m, 3, none⟩)) w) := by
 refine enter Tryz.func33 rfl Tryz.ntmps33 rfl <| have hH := Hp.start w; SR <| va (v := .pointer none) rfl <| RL.nil <| SR <| vm (v := Pn _ _) rfl <| V (run_nilCheck rfl) <| V (fA underlying73 3 rfl sizeOf71 rfl) <| va (v := Pn _ _) rfl <| RL.nil <| CW.ret <| outP1 Tryz.results33 ?_ hH.below
 rfl
theorem c_tick_e (W0 : World) (b2 m : Nat) (c : Cn) (L : List Ent) (hc : c.ok) (w : World) (hB : Kz (Kw W0) L b2 (.cells #[pt m] 48 (0, 0))) (hH : Hp W0 w (.blk m (.cells #[B true, I c.e, I c.l, I c.j] 73 (0, 0)) :: L)) : Calls Tryz.prog 25 #[.func (.func 29) #[] #[], .pointer (some ⟨b2, 0, none⟩)] w (Ret fun u w' => u = .tuple #[] ∧ Hp W0 w' (blkM TX m (Kd.e.up c) :: L)) := by
 unfold Cn.ok at hc
 refine enter Tryz.func25 rfl Tryz.ntmps25 rfl <| SR <| V (run_ld underlying48 rfl rfl (cellK (hH.kz (Le.refl _) (fun x hx => (mT hx)) _ _ hB) (v := Pn _ _) rfl)) <| RL.callP rfl hH (c_tally_Meter_counts _ _ _ (hH.blk (i := 0) rfl)) (run_call1 call26 rfl) <| fun w1 hH2 => RL.nil <| CW.condT rfl <| CW.region <| vm (v := .func _ _ _) rfl <| V (run_ld underlying48 rfl rfl (cellK (hH2.kz (Le.refl _) (fun x hx => (mT hx)) _ _ hB) (v := Pn _ _) rfl)) <| RL.callP rfl hH2 (c_tally_Meter_Wrap_2_1 _ _) (run_callC1 call29 (cs := []) rfl rfl) <| fun w4 hH5 => RL.callT rfl (c_sync_atomic_Int64_Add W0 m 1 _ _ c.e L (by omega) rfl _ hH5) (run_call2 call27 rfl rfl) <| ?_
 rintro _ w6 ⟨rfl, hH7⟩
 refine RL.nil <| out0 Tryz.results25 ⟨rfl, hH7⟩
theorem c_tick_l (W0 : World) (b2 m : Nat) (c : Cn) (L : List Ent) (hc : c.ok) (w : World) (hB : Kz (Kw W0) L b2 (.cells #[pt m] 48 (0, 0))) (hH : Hp W0 w (.blk m (.cells #[B true, I c.e, I c.l, I c.j] 73 (0, 0)) :: L)) : Calls Tryz.prog 25 #[.func (.func 31) #[] #[], .pointer (some ⟨b2, 0, none⟩)] w (Ret fun u w' => u = .tuple #[] ∧ Hp W0 w' (blkM TX m (Kd.l.up c) :: L)) := by
 unfold Cn.ok at hc
 refine enter Tryz.func25 rfl Tryz.ntmps25 rfl <| SR <| V (run_ld underlying48 rfl rfl (cellK (hH.kz (Le.refl _) (fun x hx => (mT hx)) _ _ hB) (v := Pn _ _) rfl)) <| RL.callP rfl hH (c_tally_Meter_counts _ _ _ (hH.blk (i := 0) rfl)) (run_call1 call26 rfl) <| fun w1 hH2 => RL.nil <| CW.condT rfl <| CW.region <| vm (v := .func _ _ _) rfl <| V (run_ld underlying48 rfl rfl (cellK (hH2.kz (Le.refl _) (fun x hx => (mT hx)) _ _ hB) (v := Pn _ _) rfl)) <| RL.callP rfl hH2 (c_tally_Meter_Wrap_3_1 _ _) (run_callC1 call31 (cs := []) rfl rfl) <| fun w4 hH5 => RL.callT rfl (c_sync_atomic_Int64_Add W0 m 2 _ _ c.l L (by omega) rfl _ hH5) (run_call2 call27 rfl rfl) <| ?_
 rintro _ w6 ⟨rfl, hH7⟩
 refine RL.nil <| out0 Tryz.results25 ⟨rfl, hH7⟩
theorem c_tick_j (W0 : World) (b2 m : Nat) (c : Cn) (L : List Ent) (hc : c.ok) (w : World) (hB : Kz (Kw W0) L b2 (.cells #[pt m] 48 (0, 0))) (hH : Hp W0 w (.blk m (.cells #[B true, I c.e, I c.l, I c.j] 73 (0, 0)) :: L)) : Calls Tryz.prog 25 #[.func (.func 33) #[] #[], .pointer (some ⟨b2, 0, none⟩)] w (Ret fun u w' => u = .tuple #[] ∧ Hp W0 w' (blkM TX m (Kd.j.up c) :: L)) := by
 unfold Cn.ok at hc
 refine enter Tryz.func25 rfl Tryz.ntmps25 rfl <| SR <| V (run_ld underlying48 rfl rfl (cellK (hH.kz (Le.refl _) (fun x hx => (mT hx)) _ _ hB) (v := Pn _ _) rfl)) <| RL.callP rfl hH (c_tally_Meter_counts _ _ _ (hH.blk (i := 0) rfl)) (run_call1 call26 rfl) <| fun w1 hH2 => RL.nil <| CW.condT rfl <| CW.region <| vm (v := .func _ _ _) rfl <| V (run_ld underlying48 rfl rfl (cellK (hH2.kz (Le.refl _) (fun x hx => (mT hx)) _ _ hB) (v := Pn _ _) rfl)) <| RL.callP rfl hH2 (c_tally_Meter_Wrap_4_1 _ _) (run_callC1 call33 (cs := []) rfl rfl) <| fun w4 hH5 => RL.callT rfl (c_sync_atomic_Int64_Add W0 m 3 _ _ c.j L (by omega) rfl _ hH5) (run_call2 call27 rfl rfl) <| ?_
 rintro _ w6 ⟨rfl, hH7⟩
 refine RL.nil <| out0 Tryz.results25 ⟨rfl, hH7⟩
theorem c_tally_Meter_Wrap_2 (W0 : World) (b5 b3 b2 m : Nat) (c : Cn) (fe : FuncId) (ae : List Value) (x1 x2 : Value) (v u : Value) (ee : El) (bb : Bool) (Y R : List Ent) (Q : List Ent → Prop) (hc : c.ok) (w : World) (hfe : ∀ args w, (callFunc fe args).run Tryz.prog w = .ok (.enter fe args) w) (h5 : Kz (Kw W0) R b5 (.cells #[fnV 25 #[pt b2]] 77 (0, 0))) (h2 : Kz (Kw W0) R b2 (.cells #[pt m] 48 (0, 0))) (h3 : Kz (Kw W0) R b3 (.cells #[fnV fe ae.toArray, x1, x2] 33 (0, 0))) (hin : ∀ (w1 : World) (A : List Ent), Hp W0 w1 ((blkM TX m (Kd.e.up c) :: Y) ++ (A ++ R)) → Calls Tryz.prog fe (v :: u :: ae).toArray w1 (Ret fun x w' => x = .tuple #[.agg (elC ee), B bb] ∧ ∃ Z', Q Z' ∧ Hp W0 w' (Z' ++ (A ++ R)))) (hH : Hp W0 w ((blkM TX m c :: Y) ++ R)) : Calls Tryz.prog 28 #[v, u, .pointer (some ⟨b5, 0, none⟩), .pointer (some ⟨b3, 0, none⟩)] w (Ret fun x w' => x = .tuple #[.agg (elC ee), B bb] ∧ ∃ Z', Q Z' ∧ Hp W0 w' (Z' ++ R)) := by
 refine enter Tryz.func28 rfl Tryz.ntmps28 rfl <| SR <| RL.new rfl hH (f := fun b => (.pointer (some ⟨b, 0, none⟩))) (run_alloc zero_el) <| fun b3 w1 hH2 => va (v := B false) rfl <| RL.nil <| SR <| V (run_ld underlying77 rfl rfl (cellK (hH2.kz (Le.refl _) (fun x hx => (mT (mT (List.mem_append_right _ hx)))) _ _ h5) (v := .func _ _ _) rfl)) <| have hF4 := Hp.frontZ (A := [_]) (Zf := [_]) (R := (Y ++ R)) hH2; RL.callT rfl (c_tick_e W0 b2 m c _ hc _ (Le.zz (fun x hx => List.mem_append_right _ (List.mem_append_right _ hx)) _ _ h2) hF4) (run_callC1 call25 (cs := [pt b2]) rfl rfl) <| ?_
 rintro _ w5 ⟨rfl, h6⟩
 have hH7 : Hp _ w5 (_ :: _ :: (Y ++ R)) := Hp.backZ (A := [_]) (Zf := [_]) h6
 refine RL.nil <| CW.seq <| SR <| V (fA underlying33 0 rfl sizeOf29 rfl) <| V (run_ld underlying29 rfl rfl (cellK (hH7.kz (Le.refl _) (fun x hx => (mT (mT (List.mem_append_right _ hx)))) _ _ h3) (v := .func _ _ _) rfl)) <| V (run_eqlF underlying29 rfl rfl) <| RL.nil <| CW.condF rfl <| CW.skip <| SR <| V (fA underlying33 0 rfl sizeOf29 rfl) <| V (run_ld underlying29 rfl rfl (cellK (hH7.kz (Le.refl _) (fun x hx => (mT (mT (List.mem_append_right _ hx)))) _ _ h3) (v := .func _ _ _) rfl)) <| ?_
 refine V (run_move (by conv => lhs; whnf)) ?_
 refine V (run_move (by conv => lhs; whnf)) ?_
 have hF8 := Hp.frontZ (A := [_]) (Zf := _ :: Y) (R := R) hH7
 refine RL.callT rfl (hin _ _ hF8) (run_callC2 hfe (cs := ae) rfl rfl rfl) ?_
 rintro _ w9 ⟨rfl, Z', hq, h10⟩
 have hH11 : Hp _ w9 (_ :: (Z' ++ R)) := Hp.backZ (A := [_]) h10
 refine V (run_extract rfl (v := .agg _) rfl) <| V (run_extract rfl (v := B _) rfl) <| RL.set hH11 (i := 0) rfl (run_stEl rfl rfl rfl (hH11.blk (i := 0) rfl)) <| fun w13 hH14 => ?_
 simp only [z2] at hH14
 refine aB rfl <| RL.nil <| CW.ret <| outCT Tryz.results28 rfl rfl hH14 (i := 0) rfl underlying40 rfl (by rw [elC_size]; rfl) ⟨rfl, Z', hq, hH14.sub (sQ sR)⟩
theorem c_tally_Meter_Wrap_3 (W0 : World) (b5 b3 b2 m : Nat) (c : Cn) (fe : FuncId) (ae : List Value) (x1 x2 : Value) (a b : El) (bb : Bool) (Y R : List Ent) (Q : List Ent → Prop) (hc : c.ok) (w : World) (hfe : ∀ args w, (callFunc fe args).run Tryz.prog w = .ok (.enter fe args) w) (h5 : Kz (Kw W0) R b5 (.cells #[fnV 25 #[pt b2]] 77 (0, 0))) (h2 : Kz (Kw W0) R b2 (.cells #[pt m] 48 (0, 0))) (h3 : Kz (Kw W0) R b3 (.cells #[x1, fnV fe ae.toArray, x2] 33 (0, 0))) (hin : ∀ (w1 : World) (A : List Ent), Hp W0 w1 ((blkM TX m (Kd.l.up c) :: Y) ++ (A ++ R)) → Calls Tryz.prog fe (.agg (elC a) :: .agg (elC b) :: ae).toArray w1 (Ret fun x w' => x = B bb ∧ ∃ Z', Q Z' ∧ Hp W0 w' (Z' ++ (A ++ R)))) (hH : Hp W0 w ((blkM TX m c :: Y) ++ R)) : Calls Tryz.prog 30 #[.agg (elC a), .agg (elC b), .pointer (some ⟨b5, 0, none⟩), .pointer (some ⟨b3, 0, none⟩)] w (Ret fun x w' => x = B bb ∧ ∃ Z', Q Z' ∧ Hp W0 w' (Z' ++ R)) := by
 refine enter Tryz.func30 rfl Tryz.ntmps30 rfl <| SR <| RL.new rfl hH (f := fun b => (.pointer (some ⟨b, 0, none⟩))) (run_box (v := .agg _) rfl) <| fun b3 w1 hH2 => RL.new rfl hH2 (f := fun b => (.pointer (some ⟨b, 0, none⟩))) (run_box (v := .agg _) rfl) <| fun b6 w4 hH5 => va (v := B false) rfl <| RL.nil <| SR <| V (run_ld underlying77 rfl rfl (cellK (hH5.kz (Le.refl _) (fun x hx => (mT (mT (mT (List.mem_append_right _ hx))))) _ _ h5) (v := .func _ _ _) rfl)) <| have hF7 := Hp.frontZ (A := [_, _]) (Zf := [_]) (R := (Y ++ R)) hH5; RL.callT rfl (c_tick_l W0 b2 m c _ hc _ (Le.zz (fun x hx => List.mem_append_right _ (List.mem_append_right _ hx)) _ _ h2) hF7) (run_callC1 call25 (cs := [pt b2]) rfl rfl) <| ?_
 rintro _ w8 ⟨rfl, h9⟩
 have hH10 : Hp _ w8 (_ :: _ :: _ :: (Y ++ R)) := Hp.backZ (A := [_, _]) (Zf := [_]) h9
 refine RL.nil <| SR <| V (fA underlying33 1 rfl sizeOf30 rfl) <| V (run_ld underlying30 rfl rfl (cellK (hH10.kz (Le.refl _) (fun x hx => (mT (mT (mT (List.mem_append_right _ hx))))) _ _ h3) (v := .func _ _ _) rfl)) <| V (run_neqF underlying30 rfl rfl) <| mB rfl <| gT rfl rfl <| V (fA underlying33 1 rfl sizeOf30 rfl) <| gT rfl rfl <| V (run_ld underlying30 rfl rfl (cellK (hH10.kz (Le.refl _) (fun x hx => (mT (mT (mT (List.mem_append_right _ hx))))) _ _ h3) (v := .func _ _ _) rfl)) <| gT rfl rfl <| V (run_ldEl underlying40 rfl rfl rfl (hH10.blk (i := 1) rfl)) <| gT rfl rfl <| V (run_ldEl underlying40 rfl rfl rfl (hH10.blk (i := 0) rfl)) <| gT rfl rfl <| have hF11 := Hp.frontZ (A := [_, _]) (Zf := _ :: Y) (R := R) hH10; RL.callT rfl (hin _ _ hF11) (run_callC2 hfe (cs := ae) rfl rfl rfl) <| ?_
 rintro _ w12 ⟨rfl, Z', hq, h13⟩
 have hH14 : Hp _ w12 (_ :: _ :: (Z' ++ R)) := Hp.backZ (A := [_, _]) h13
 refine V (run_pickT rfl (v := B _) rfl) <| aB rfl <| RL.nil <| CW.ret <| out1 Tryz.results30 (v := B bb) rfl ⟨rfl, Z', hq, hH14.sub (sQ (sQ sR))⟩
theorem c_tally_Meter_Wrap_4 (W0 : World) (b5 b3 b2 m : Nat) (c : Cn) (fe : FuncId) (ae : List Value) (x1 x2 : Value) (a b : El) (ee : El) (Y R : List Ent) (Q : List Ent → Prop) (hc : c.ok) (w : World) (hfe : ∀ args w, (callFunc fe args).run Tryz.prog w = .ok (.enter fe args) w) (h5 : Kz (Kw W0) R b5 (.cells #[fnV 25 #[pt b2]] 77 (0, 0))) (h2 : Kz (Kw W0) R b2 (.cells #[pt m] 48 (0, 0))) (h3 : Kz (Kw W0) R b3 (.cells #[x1, x2, fnV fe ae.toArray] 33 (0, 0))) (hin : ∀ (w1 : World) (A : List Ent), Hp W0 w1 ((blkM TX m (Kd.j.up c) :: Y) ++ (A ++ R)) → Calls Tryz.prog fe (.agg (elC a) :: .agg (elC b) :: ae).toArray w1 (Ret fun x w' => x = .agg (elC ee) ∧ ∃ Z', Q Z' ∧ Hp W0 w' (Z' ++ (A ++ R)))) (hH : Hp W0 w ((blkM TX m c :: Y) ++ R)) : Calls Tryz.prog 32 #[.agg (elC a), .agg (elC b), .pointer (some ⟨b5, 0, none⟩), .pointer (some ⟨b3, 0, none⟩)] w (Ret fun x w' => x = .agg (elC ee) ∧ ∃ Z', Q Z' ∧ Hp W0 w' (Z' ++ R)) := by
 refine enter Tryz.func32 rfl Tryz.ntmps32 rfl <| SR <| RL.new rfl hH (f := fun b => (.pointer (some ⟨b, 0, none⟩))) (run_box (v := .agg _) rfl) <| fun b3 w1 hH2 => RL.new rfl hH2 (f := fun b => (.pointer (some ⟨b, 0, none⟩))) (run_box (v := .agg _) rfl) <| fun b6 w4 hH5 => RL.new rfl hH5 (f := fun b => (.pointer (some ⟨b, 0, none⟩))) (run_alloc zero_el) <| fun b9 w7 hH8 => RL.nil <| SR <| V (run_ld underlying77 rfl rfl (cellK (hH8.kz (Le.refl _) (fun x hx => (mT (mT (mT (mT (List.mem_append_right _ hx)))))) _ _ h5) (v := .func _ _ _) rfl)) <| have hF10 := Hp.frontZ (A := [_, _, _]) (Zf := [_]) (R := (Y ++ R)) hH8; RL.callT rfl (c_tick_j W0 b2 m c _ hc _ (Le.zz (fun x hx => List.mem_append_right _ (List.mem_append_right _ hx)) _ _ h2) hF10) (run_callC1 call25 (cs := [pt b2]) rfl rfl) <| ?_
 rintro _ w11 ⟨rfl, h12⟩
 have hH13 : Hp _ w11 (_ :: _ :: _ :: _ :: (Y ++ R)) := Hp.backZ (A := [_, _, _]) (Zf := [_]) h12
 refine RL.nil <| CW.seq <| SR <| V (fA underlying33 2 rfl sizeOf31 rfl) <| V (run_ld underlying31 rfl rfl (cellK (hH13.kz (Le.refl _) (fun x hx => (mT (mT (mT (mT (List.mem_append_right _ hx)))))) _ _ h3) (v := .func _ _ _) rfl)) <| V (run_eqlF underlying31 rfl rfl) <| RL.nil <| CW.condF rfl <| CW.skip <| SR <| V (fA underlying33 2 rfl sizeOf31 rfl) <| V (run_ld underlying31 rfl rfl (cellK (hH13.kz (Le.refl _) (fun x hx => (mT (mT (mT (mT (List.mem_append_right _ hx)))))) _ _ h3) (v := .func _ _ _) rfl)) <| V (run_ldEl underlying40 rfl rfl rfl (hH13.blk (i := 2) rfl)) <| V (run_ldEl underlying40 rfl rfl rfl (hH13.blk (i := 1) rfl)) <| have hF14 := Hp.frontZ (A := [_, _, _]) (Zf := _ :: Y) (R := R) hH13; RL.callT rfl (hin _ _ hF14) (run_callC2 hfe (cs := ae) rfl rfl rfl) <| ?_
 rintro _ w15 ⟨rfl, Z', hq, h16⟩
 have hH17 : Hp _ w15 (_ :: _ :: _ :: (Z' ++ R)) := Hp.backZ (A := [_, _, _]) h16
 refine RL.set hH17 (i := 0) rfl (run_stEl rfl rfl rfl (hH17.blk (i := 0) rfl)) <| fun w18 hH19 => ?_
 simp only [z2] at hH19
 refine RL.nil <| CW.ret <| outCg Tryz.results32 rfl hH19 (i := 0) rfl underlying40 rfl (by rw [elC_size]; rfl) ⟨rfl, Z', hq, hH19.sub (sQ (sQ (sQ sR)))⟩
theorem c_tally_Of_1 (Bk : Nat) (s : Shp) (v : Value) (l : List InsR) (u : Value) (vs : List El) (hl : l.length ≤ 1000) (w : World) (hs : Sl w v 10 l.length (l.flatMap insL)) (ht : Sl w u 8 vs.length (vs.flatMap elL)) (hsh : ShpV (Kw w) s) (hb : w.heap[Bk]? = some (.cells (shpC s) 24 (0, 0))) (hT : Tab w) : Calls Tryz.prog 18 #[v, u, .pointer (some ⟨Bk, 0, none⟩)] w (Pure (.tuple #[.agg (elC (evalF s.sh l vs).1), B (evalF s.sh l vs).2]) w) := by
 refine enter Tryz.func18 rfl Tryz.ntmps18 rfl <| have hH := Hp.start w; SR <| RL.new rfl hH (f := fun b => (.pointer (some ⟨b, 0, none⟩))) (run_alloc zero_el) <| fun b3 w1 hH2 => va (v := B false) rfl <| RL.nil <| SR <| V (run_ldA (cs := [B _, _]) underlying24 rfl rfl rfl (rangeAt_cells (hH2.ext hb))) <| ?_
 refine V (run_move (by conv => lhs; whnf)) ?_
 refine V (run_move (by conv => lhs; whnf)) ?_
 refine RL.callP rfl hH2 (c_code_Eval _ _ _ _ _ (by omega) _ (hs.hp hH2) (ht.hp hH2) (hsh.mono hH2.kw) (hT.hp hH2)) (run_call3 call19 rfl rfl rfl) <| fun w4 hH5 => V (run_extract rfl (v := .agg _) rfl) <| V (run_extract rfl (v := B _) rfl) <| RL.set hH5 (i := 0) rfl (run_stEl rfl rfl rfl (hH5.blk (i := 0) rfl)) <| fun w7 hH8 => ?_
 simp only [z2] at hH8
 refine aB rfl <| RL.nil <| CW.ret <| outCT Tryz.results18 rfl rfl hH8 (i := 0) rfl underlying40 rfl (by rw [elC_size]; rfl) ⟨?_, hH8.below⟩
 rfl
theorem c_tally_Meter_Clear (W0 : World) (m : Nat) (c : Cn) (L : List Ent) (w : World) (hH : Hp W0 w (.blk m (.cells #[B true, I c.e, I c.l, I c.j] 73 (0, 0)) :: L)) : Calls Tryz.prog 14 #[.pointer (some ⟨m, 0, none⟩)] w (Ret fun u w' => u = .tuple #[] ∧ Hp W0 w' (blkM TX m cn0 :: L)) := by
 refine enter Tryz.func14 rfl Tryz.ntmps14 rfl <| SR <| vm (v := Pn _ _) rfl <| RL.callP rfl hH (c_tally_Meter_counts _ _ _ (hH.blk (i := 0) rfl)) (run_call1 call26 rfl) <| fun w1 hH2 => RL.nil <| CW.condT rfl <| SR <| vm (v := Pn _ _) rfl <| V (run_nilCheck rfl) <| V (fA underlying73 1 rfl sizeOf71 rfl) <| RL.callT rfl (c_sync_atomic_Int64_Store W0 m 1 _ _ c.e L rfl _ hH2) (run_call2 call34 rfl rfl) <| ?_
 rintro _ w4 ⟨rfl, hH5⟩
 refine RL.nil <| SR <| vm (v := Pn _ _) rfl <| V (run_nilCheck rfl) <| V (fA underlying73 2 rfl sizeOf71 rfl) <| RL.callT rfl (c_sync_atomic_Int64_Store W0 m 2 _ _ c.l L rfl _ hH5) (run_call2 call34 rfl rfl) <| ?_
 rintro _ w6 ⟨rfl, hH7⟩
 refine RL.nil <| CW.region <| vm (v := Pn _ _) rfl <| V (run_nilCheck rfl) <| V (fA underlying73 3 rfl sizeOf71 rfl) <| RL.callT rfl (c_sync_atomic_Int64_Store W0 m 3 _ _ c.j L rfl _ hH7) (run_call2 call34 rfl rfl) <| ?_
 rintro _ w8 ⟨rfl, hH9⟩
 refine RL.nil <| out0 Tryz.results14 ⟨rfl, hH9⟩
theorem c_tally_Meter_Wrap (K : Vu) (m : Nat) (d : Wr) (e l j : Value) (w : World) (hK : Le K (Kw w)) (hd : OpsV TX K d e l j) : Calls Tryz.prog 13 #[.pointer (some ⟨m, 0, none⟩), .agg #[e, l, j]] w (PureF K (fun K' u => ∃ f1 f2 f3 a1 a2 a3, u = .agg #[fnV f1 a1, fnV f2 a2, fnV f3 a3] ∧ OpsV TX K' (.wrap m d) (fnV f1 a1) (fnV f2 a2) (fnV f3 a3)) w) := by
 refine enter Tryz.func13 rfl Tryz.ntmps13 rfl <| have hH := Hp.start w; SR <| RL.new rfl hH (f := fun b => (.pointer (some ⟨b, 0, none⟩))) (run_box (v := Pn _ _) rfl) <| fun b3 w1 hH2 => RL.new rfl hH2 (f := fun b => (.pointer (some ⟨b, 0, none⟩))) (run_box (v := .agg _) rfl) <| fun b6 w4 hH5 => RL.new rfl hH5 (f := fun b => (.pointer (some ⟨b, 0, none⟩))) (run_alloc zero_ops) <| fun b9 w7 hH8 => RL.nil <| SR <| ?_
 refine V (run_mkF1 (by conv => lhs; whnf)) ?_
 refine RL.new rfl hH8 (f := fun b => (.pointer (some ⟨b, 0, none⟩))) (run_alloc Tryz.zeroValue77) <| fun b12 w10 hH11 => RL.set hH11 (i := 0) rfl (run_st rfl rfl (v := .func _ _ _) rfl rfl rfl (hH11.blk (i := 0) rfl) (by decide)) <| fun w13 hH14 => ?_
 simp only [z2] at hH14
 refine RL.nil <| SR <| ?_
 refine V (run_mkF2 (by conv => lhs; whnf) (by conv => lhs; whnf)) ?_
 refine V (run_mkF2 (by conv => lhs; whnf) (by conv => lhs; whnf)) ?_
 refine V (run_mkF2 (by conv => lhs; whnf) (by conv => lhs; whnf)) ?_
 refine V (run_bld (vs := [(0, fnV _ _), (1, fnV _ _), (2, fnV _ _)]) rfl (built_ops _ _ _ _ _ _)) <| RL.set hH14 (i := 1) rfl (run_stW rfl rfl rfl (by simp [Value.oneCell', pt, fnV]) (hH14.blk (i := 1) rfl) rfl) <| fun w15 hH16 => ?_
 simp only [z2] at hH16
 refine RL.nil <| CW.ret <| have hH17 : Hp _ w15 (_ :: _ :: _ :: [Ent.blk b12 (.cells ([fnV 25 #[pt b3]]).toArray 77 (0, 0))]) := Hp.zin0 (Z := [Ent.blk b12 (.cells ([fnV 25 #[pt b3]]).toArray 77 (0, 0))]) (L := [_, _, _]) hH16; have hH18 : Hp _ w15 (_ :: _ :: ([Ent.blk b6 (.cells ([e, l, j]).toArray 33 (0, 0))] ++ [Ent.blk b12 (.cells ([fnV 25 #[pt b3]]).toArray 77 (0, 0))])) := Hp.zin (Z := [Ent.blk b6 (.cells ([e, l, j]).toArray 33 (0, 0))]) (L := [_, _]) (L' := [Ent.blk b12 (.cells ([fnV 25 #[pt b3]]).toArray 77 (0, 0))]) (hH17.perm (((pC pR).trans pS).trans (pC pR))); have hH19 : Hp _ w15 (_ :: ([Ent.blk b3 (.cells ([pt m]).toArray 48 (0, 0))] ++ ([Ent.blk b6 (.cells ([e, l, j]).toArray 33 (0, 0))] ++ [Ent.blk b12 (.cells ([fnV 25 #[pt b3]]).toArray 77 (0, 0))]))) := Hp.zin (Z := [Ent.blk b3 (.cells ([pt m]).toArray 48 (0, 0))]) (L := [_]) (L' := ([Ent.blk b6 (.cells ([e, l, j]).toArray 33 (0, 0))] ++ [Ent.blk b12 (.cells ([fnV 25 #[pt b3]]).toArray 77 (0, 0))])) (hH18.perm (((pC pR).trans pS).trans (pC pR))); outCg Tryz.results13 rfl hH19 (i := 0) rfl underlying33 rfl rfl ⟨([Ent.blk b3 (.cells ([pt m]).toArray 48 (0, 0))] ++ ([Ent.blk b6 (.cells ([e, l, j]).toArray 33 (0, 0))] ++ [Ent.blk b12 (.cells ([fnV 25 #[pt b3]]).toArray 77 (0, 0))])), (hH19.sub (sQ sR)), _, _, _, _, _, _, rfl, ?_⟩
 ·exact ⟨b3, b6, b12, e, l, j, rfl, rfl, rfl, .inr (by simp), .inr (by simp), .inr (by simp), hd.mono (Le.z _ _)⟩
theorem c_tally_Of (K : Vu) (s : Shp) (hfn : s.facs.length ≤ 1000) (hnn : ∀ f ∈ s.facs, f.names.length ≤ 1000) (w : World) (hK : Le K (Kw w)) (hs : ShpV K s) : Calls Tryz.prog 8 #[.agg (shpC s)] w (Ret fun u w' => ∃ (f1 f2 f3 : FuncId) (a1 a2 a3 : Array Value) (p : Shp) (tb : TbM) (tl : List (Nat × Rl)) (Zt Z : List Ent), u = .agg #[fnV f1 a1, fnV f2 a2, fnV f3 a3] ∧ OpsV TX (Kz K Z) (.base p tb) (fnV f1 a1) (fnV f2 a2) (fnV f3 a3) ∧ p.sh = s.sh ∧ TbOf p.sh tb ∧ (∀ i, i < 8 → ∀ q, tb i = some q → q ∈ tl) ∧ TblZ 102 tl Zt ∧ Hp w w' (Zt ++ Z)) := by
 refine enter Tryz.func8 rfl Tryz.ntmps8 rfl <| have hH := Hp.start w; SR <| RL.new rfl hH (f := fun b => (.pointer (some ⟨b, 0, none⟩))) (run_box (v := .agg _) rfl) <| fun b3 w1 hH2 => RL.new rfl hH2 (f := fun b => (.pointer (some ⟨b, 0, none⟩))) (run_alloc zero_ops) <| fun b6 w4 hH5 => RL.nil <| SR <| V (run_ldA (cs := [B _, _]) underlying24 rfl rfl rfl (rangeAt_cells (hH5.blk (i := 1) rfl))) <| RL.new rfl hH5 (f := fun b => (.slice (some ⟨b, 0, none⟩) 1 1)) (run_mkShps underlying80 rfl rfl rfl (l := [s]) rfl (by decide) (by decide) rfl) <| fun b9 w7 hH8 => RL.callF rfl hH8 (c_shape_Product K (.slice (some ⟨b9, 0, none⟩) 1 1) [s] (show 1 ≤ 1000 by decide) (by simpa using hfn) (by simpa using hnn) _ (hK.trans hH8.kw) (Hp.slFlat shpL_len hH8 (i := 0) (l := [s]) rfl (show 1 ≤ maxLen by decide)) ⟨fun x hx => by rw [List.mem_singleton.1 hx]; exact hs⟩) (run_call1 call17 rfl) <| fun v12 w13 Z15 hH14 hp16 => have hH17 : Hp _ w13 (_ :: _ :: _ :: Z15) := hH14.zin0 (L := [_, _, _]); ?_
 obtain ⟨p18, rfl, psh19, pv20⟩ := hp16
 refine RL.new rfl hH17 (f := fun b => (.pointer (some ⟨b, 0, none⟩))) (run_alloc Tryz.zeroValue24) <| fun b23 w21 hH22 => RL.set hH22 (i := 0) rfl (run_stShp pv20 rfl rfl rfl (hH22.blk (i := 0) rfl) rfl) <| fun w24 hH25 => ?_
 simp only [z2] at hH25
 refine RL.nil <| SR <| V (fA underlying24 0 rfl sizeOf4 rfl) <| V (run_ld underlying4 rfl rfl (hH25.cell (i := 3) rfl (v := B _) rfl)) <| V (fA underlying24 0 rfl sizeOf4 rfl) <| RL.set (c' := #[B s.tuple, p18.fv]) hH25 (i := 0) rfl (run_st (off := 0 + 0) rfl rfl (v := B s.tuple) rfl rfl rfl (hH25.blk (i := 0) rfl) (by simp)) <| fun w27 hH28 => ?_
 simp only [z2] at hH28
 have hp3 : ShpV _ ⟨s.tuple, p18.fv, p18.facs⟩ := ⟨pv20.facs, pv20.each⟩
 refine RL.nil <| SR <| ?_
 refine V (run_mkF1 (by conv => lhs; whnf)) ?_
 refine V (run_ldA (cs := [B _, _]) underlying24 rfl rfl rfl (rangeAt_cells (hH28.blk (i := 0) rfl))) <| RL.callT rfl (c_tally_joiner ⟨s.tuple, p18.fv, p18.facs⟩ _ (hp3.mono (hH28.kz hK (fun x hx => (mT (mT (mT (mT hx)))))))) (run_call1 call21 rfl) <| ?_
 rintro _ w33 ⟨Bt29, tb30, tl31, Zt32, rfl, hto34, htl35, hZt36, h37⟩
 have hH38 : Hp _ w33 (_ :: _ :: _ :: _ :: ((Zt32 ++ [_]) ++ Z15)) := Hp.backZ (A := [_, _, _, _]) (Zf := Zt32 ++ [_]) (R := Z15) (hH28.callZ h37)
 refine V (run_bld (vs := [(0, fnV _ _), (1, fnV _ _), (2, fnV _ _)]) rfl (built_ops _ _ _ _ _ _)) <| RL.set hH38 (i := 2) rfl (run_stW rfl rfl rfl (by simp [Value.oneCell', pt, fnV]) (hH38.blk (i := 2) rfl) rfl) <| fun w39 hH40 => ?_
 simp only [z2] at hH40
 refine RL.nil <| CW.ret <| have hH41 : Hp _ w39 (_ :: _ :: _ :: ([Ent.blk b23 (.cells ([B s.tuple, p18.fv]).toArray 24 (0, 0))] ++ ((Zt32 ++ [_]) ++ Z15))) := Hp.zin (Z := [Ent.blk b23 (.cells ([B s.tuple, p18.fv]).toArray 24 (0, 0))]) (L := [_, _, _]) (L' := ((Zt32 ++ [_]) ++ Z15)) hH40; outCg Tryz.results8 rfl hH41 (i := 1) rfl underlying33 rfl rfl ⟨_, _, _, _, _, _, ⟨s.tuple, p18.fv, p18.facs⟩, tb30, tl31, Zt32, ([Ent.blk b23 (.cells ([B s.tuple, p18.fv]).toArray 24 (0, 0))] ++ ([Ent.blk Bt29 (.cells (tbL tb30).toArray 88 (0, 0))] ++ Z15)), rfl, ⟨b23, Bt29, rfl, rfl, rfl, .inr (by simp), hp3.mono (Le.zz fun x hx => by simp [hx]), .inr (by simp)⟩, ?_, hto34, htl35, hZt36, ?_⟩
 ·have hq := congrArg Sh.facs psh19; simp only [prodF, List.flatMap_cons, List.flatMap_nil, List.append_nil] at hq
  show (⟨s.tuple, p18.facs.map Fac.fc⟩ : Sh) = s.sh; rw [show p18.facs.map Fac.fc = s.sh.facs from hq]; rfl
 ·exact (hH41.sub (sQ (sQ (sQ sR)))).perm (by rw [List.append_assoc]; exact List.perm_append_comm_assoc _ _ _)
section
theorem ent_e {K : Vu} {d : Wr} {e l j : Value} (h : OpsV TX K d e l j) : EntF Tryz.prog e := by
 cases d with
 | base p tb => obtain ⟨B1, B2, rfl, rfl, rfl, -⟩ := h; exact ⟨_, _, rfl, call18⟩
 | wrap m d => obtain ⟨b2, b3, b5, e', l', j', rfl, rfl, rfl, -⟩ := h; exact ⟨_, _, rfl, call28⟩
theorem call_e (W0 : World) (ids : List Nat) (tl : List (Nat × Rl)) (hT : Tab W0) (v : Value) (il : List InsR) (u : Value) (vs : List El) (hil : il.length ≤ 1000) (d : Wr) : ∀ (n : Nat) (f : Ct) (Z R : List Ent) (e l j : Value) (w : World), OpsV TX (Kz (Kw W0) R) d e l j → d.inn ids tl → TalZ TX ids f tl Z → OkC n f → n + d.dep ≤ 1000000 → SlV (Kz (Kw W0) R) v 10 il.length (il.flatMap insL) → SlV (Kz (Kw W0) R) u 8 vs.length (vs.flatMap elL) → Hp W0 w (Z ++ R) →
  CallsF Tryz.prog e [v, u] w (Ret fun x w' => x = .tuple #[.agg (elC (evalF d.sh.sh il vs).1), B (evalF d.sh.sh il vs).2] ∧ ∃ Z', TalZ TX ids (d.tick .e f) tl Z' ∧ Hp W0 w' (Z' ++ R)) := by
 induction d with
 | base p tb =>
  intro n f Z R e l j w hO hi hZ hf hn hs ht hH
  obtain ⟨B1, B2, rfl, rfl, rfl, h4, h5, h6⟩ := hO
  have hk := hH.kz (Le.refl _) (Z := R) fun x hx => List.mem_append_right _ hx
  refine ⟨_, [pt B1], rfl, call18, ?_⟩
  exact (c_tally_Of_1 B1 p v il u vs hil w (hs.mono hk).sl (ht.mono hk).sl (h5.mono hk) (hk _ _ h4) (hT.hp hH)).mono fun x w' hx => Ret.mono (fun y w2 hy => ⟨hy.1, Z, hZ, hH.call hy.2⟩) hx
 | wrap m d ih =>
  intro n f Z R e l j w hO hi hZ hf hn hs ht hH
  obtain ⟨b2, b3, b5, e', l', j', rfl, rfl, rfl, h5, h2, h3, hd⟩ := hO
  obtain ⟨fe, ce, he, hfe⟩ := ent_e hd
  subst he
  obtain ⟨Y, hp, hq⟩ := hZ.pick hi.1 hH
  obtain ⟨Z1, hz1, hp1⟩ := hq (Kd.e.up (f m))
  have hn' : n + (d.dep + 1) ≤ 1000000 := hn
  refine ⟨_, [pt b5, pt b3], rfl, call28, ?_⟩
  refine c_tally_Meter_Wrap_2 W0 b5 b3 b2 m (f m) fe ce _ _ v u (evalF d.sh.sh il vs).1 (evalF d.sh.sh il vs).2 Y R (fun Z' => TalZ TX ids (d.tick .e (tick1 .e m f)) tl Z') (hf.ok (by omega) m) w hfe h5 h2 h3 (fun w1 A h => ?_) (hH.perm (hp.append_right R))
  exact (ih (n + 1) (tick1 .e m f) Z1 (A ++ R) _ _ _ w1 (hd.mono (Le.zz fun x hx => List.mem_append_right _ hx)) hi.2 hz1 (hf.tick _ m) (by omega) (hs.mono (Le.zz fun x hx => List.mem_append_right _ hx)) (ht.mono (Le.zz fun x hx => List.mem_append_right _ hx)) (h.perm (hp1.append_right _))).get
theorem ent_l {K : Vu} {d : Wr} {e l j : Value} (h : OpsV TX K d e l j) : EntF Tryz.prog l := by
 cases d with
 | base p tb => obtain ⟨B1, B2, rfl, rfl, rfl, -⟩ := h; exact ⟨_, _, rfl, call20⟩
 | wrap m d => obtain ⟨b2, b3, b5, e', l', j', rfl, rfl, rfl, -⟩ := h; exact ⟨_, _, rfl, call30⟩
theorem call_l (W0 : World) (ids : List Nat) (tl : List (Nat × Rl)) (hT : Tab W0) (a b : El) (d : Wr) : ∀ (n : Nat) (f : Ct) (Z R : List Ent) (e l j : Value) (w : World), OpsV TX (Kz (Kw W0) R) d e l j → d.inn ids tl → TalZ TX ids f tl Z → OkC n f → n + d.dep ≤ 1000000 →  Hp W0 w (Z ++ R) →
  CallsF Tryz.prog l [.agg (elC a), .agg (elC b)] w (Ret fun x w' => x = B (leqE a b) ∧ ∃ Z', TalZ TX ids (d.tick .l f) tl Z' ∧ Hp W0 w' (Z' ++ R)) := by
 induction d with
 | base p tb =>
  intro n f Z R e l j w hO hi hZ hf hn  hH
  obtain ⟨B1, B2, rfl, rfl, rfl, h4, h5, h6⟩ := hO
  have hk := hH.kz (Le.refl _) (Z := R) fun x hx => List.mem_append_right _ hx
  refine ⟨_, [], rfl, call20, ?_⟩
  exact (c_shape_Leq a b w).mono fun x w' hx => Ret.mono (fun y w2 hy => ⟨hy.1, Z, hZ, hH.call hy.2⟩) hx
 | wrap m d ih =>
  intro n f Z R e l j w hO hi hZ hf hn  hH
  obtain ⟨b2, b3, b5, e', l', j', rfl, rfl, rfl, h5, h2, h3, hd⟩ := hO
  obtain ⟨fe, ce, he, hfe⟩ := ent_l hd
  subst he
  obtain ⟨Y, hp, hq⟩ := hZ.pick hi.1 hH
  obtain ⟨Z1, hz1, hp1⟩ := hq (Kd.l.up (f m))
  have hn' : n + (d.dep + 1) ≤ 1000000 := hn
  refine ⟨_, [pt b5, pt b3], rfl, call30, ?_⟩
  refine c_tally_Meter_Wrap_3 W0 b5 b3 b2 m (f m) fe ce _ _ a b (leqE a b) Y R (fun Z' => TalZ TX ids (d.tick .l (tick1 .l m f)) tl Z') (hf.ok (by omega) m) w hfe h5 h2 h3 (fun w1 A h => ?_) (hH.perm (hp.append_right R))
  exact (ih (n + 1) (tick1 .l m f) Z1 (A ++ R) _ _ _ w1 (hd.mono (Le.zz fun x hx => List.mem_append_right _ hx)) hi.2 hz1 (hf.tick _ m) (by omega)  (h.perm (hp1.append_right _))).get
theorem ent_j {K : Vu} {d : Wr} {e l j : Value} (h : OpsV TX K d e l j) : EntF Tryz.prog j := by
 cases d with
 | base p tb => obtain ⟨B1, B2, rfl, rfl, rfl, -⟩ := h; exact ⟨_, _, rfl, call40⟩
 | wrap m d => obtain ⟨b2, b3, b5, e', l', j', rfl, rfl, rfl, -⟩ := h; exact ⟨_, _, rfl, call32⟩
theorem call_j (W0 : World) (ids : List Nat) (tl : List (Nat × Rl)) (hT : Tab W0) (a b : El) (d : Wr) : ∀ (n : Nat) (f : Ct) (Z R : List Ent) (e l j : Value) (w : World), OpsV TX (Kz (Kw W0) R) d e l j → d.inn ids tl → TalZ TX ids f tl Z → OkC n f → n + d.dep ≤ 1000000 →  Hp W0 w (Z ++ R) →
  CallsF Tryz.prog j [.agg (elC a), .agg (elC b)] w (Ret fun x w' => x = .agg (elC (joinTb d.tb a b)) ∧ ∃ Z', TalZ TX ids (d.tick .j f) tl Z' ∧ Hp W0 w' (Z' ++ R)) := by
 induction d with
 | base p tb =>
  intro n f Z R e l j w hO hi hZ hf hn  hH
  obtain ⟨B1, B2, rfl, rfl, rfl, h4, h5, h6⟩ := hO
  have hk := hH.kz (Le.refl _) (Z := R) fun x hx => List.mem_append_right _ hx
  refine ⟨_, [pt B2], rfl, call40, ?_⟩
  obtain ⟨Zt, hzt, rfl⟩ := hZ
  refine (c_tally_joiner_1 W0 B2 tb tl Zt (ids.map (fun m => blkM TX m (f m)) ++ R) a b w hT hi.2 (Le.zz (fun x hx => List.mem_append_right _ hx) _ _ h6) hzt (hH.perm (by rw [List.append_assoc]; exact List.perm_append_comm_assoc _ _ _))).mono fun x w' hx => Ret.mono (fun y w2 hy => ⟨hy.1, ?_⟩) hx
  obtain ⟨-, Z', hz', h'⟩ := hy
  exact ⟨_, ⟨Z', hz', rfl⟩, h'.perm (by rw [List.append_assoc]; exact List.perm_append_comm_assoc _ _ _)⟩
 | wrap m d ih =>
  intro n f Z R e l j w hO hi hZ hf hn  hH
  obtain ⟨b2, b3, b5, e', l', j', rfl, rfl, rfl, h5, h2, h3, hd⟩ := hO
  obtain ⟨fe, ce, he, hfe⟩ := ent_j hd
  subst he
  obtain ⟨Y, hp, hq⟩ := hZ.pick hi.1 hH
  obtain ⟨Z1, hz1, hp1⟩ := hq (Kd.j.up (f m))
  have hn' : n + (d.dep + 1) ≤ 1000000 := hn
  refine ⟨_, [pt b5, pt b3], rfl, call32, ?_⟩
  refine c_tally_Meter_Wrap_4 W0 b5 b3 b2 m (f m) fe ce _ _ a b (joinTb d.tb a b) Y R (fun Z' => TalZ TX ids (d.tick .j (tick1 .j m f)) tl Z') (hf.ok (by omega) m) w hfe h5 h2 h3 (fun w1 A h => ?_) (hH.perm (hp.append_right R))
  exact (ih (n + 1) (tick1 .j m f) Z1 (A ++ R) _ _ _ w1 (hd.mono (Le.zz fun x hx => List.mem_append_right _ hx)) hi.2 hz1 (hf.tick _ m) (by omega)  (h.perm (hp1.append_right _))).get
end
theorem c_clearancelaw17_whole (K : Vu) (d : Wr) (e l j : Value) (w : World) (hd : OpsV TX K d e l j) : Calls Tryz.prog 9 #[.agg #[e, l, j]] w (Pure (B true) w) := by
 obtain ⟨f1, f2, f3, a1, a2, a3, rfl, rfl, rfl⟩ := hd.one
 refine enter Tryz.func9 rfl Tryz.ntmps9 rfl <| have hH := Hp.start w; SR <| RL.new rfl hH (f := fun b => (.pointer (some ⟨b, 0, none⟩))) (run_box (v := .agg _) rfl) <| fun b3 w1 hH2 => va (v := B false) rfl <| RL.nil <| SR <| V (fA underlying33 0 rfl sizeOf29 rfl) <| V (run_ld underlying29 rfl rfl (hH2.cell (i := 0) rfl (v := .func _ _ _) rfl)) <| V (run_neqF underlying29 rfl rfl) <| mB rfl <| gT rfl rfl <| V (fA underlying33 1 rfl sizeOf30 rfl) <| gT rfl rfl <| V (run_ld underlying30 rfl rfl (hH2.cell (i := 0) rfl (v := .func _ _ _) rfl)) <| gT rfl rfl <| V (run_neqF underlying30 rfl rfl) <| V (run_pickT rfl (v := B _) rfl) <| mB rfl <| gT rfl rfl <| V (fA underlying33 2 rfl sizeOf31 rfl) <| gT rfl rfl <| V (run_ld underlying31 rfl rfl (hH2.cell (i := 0) rfl (v := .func _ _ _) rfl)) <| gT rfl rfl <| V (run_neqF underlying31 rfl rfl) <| V (run_pickT rfl (v := B _) rfl) <| aB rfl <| RL.nil <| CW.ret <| outP1 Tryz.results9 (congrArg B ?_) hH2.below
 rfl
theorem c_clearancelaw17_big (v : Value) (l : List CalR) (w : World) (hs : Sl w v 19 l.length (l.flatMap calL)) (hv : CalsV (Kw w) l) : Calls Tryz.prog 6 #[v] w (Pure (B (bigCal l)) w) := by
 have hm := hs.small
 unfold maxLen at hm
 refine enter Tryz.func6 rfl Tryz.ntmps6 rfl <| have hH := Hp.start w; SR <| va (v := B false) rfl <| RL.nil <| CW.seq <| SR <| ?_
 refine V (run_move (by conv => lhs; whnf)) ?_
 refine V (run_lenSl (hs.hp hH) rfl underlying25 rfl) <| V (run_gtr rfl rfl) <| RL.nil <| CW.condP rfl (fun h2 => ?_) (fun h2 => ?_)
 ·refine SR <| va (v := B true) rfl <| RL.nil <| CW.ret <| outP1 Tryz.results6 (congrArg B ?_) hH.below
  (rw [bigCal, decide_eq_true (by omega)]; rfl)
 ·refine CW.skip <| CW.seq <| SR <| ?_
  refine V (run_move (by conv => lhs; whnf)) ?_
  refine V (run_lenSl (hs.hp hH) rfl underlying25 rfl) <| vm (v := I 0) rfl <| RL.nil <| CW.block <| have hno : ¬ 60 < l.length := (by omega); CW.loop (G := Int) (fun k s' w' => (Fr (2 :: (4 :: (rg 10 15 []))) _ s') ∧ (Hp w w' _) ∧ (s' 10 = I k) ∧ (0 ≤ k) ∧ (k ≤ l.length) ∧ (∀ j : Int, 0 ≤ j → j < k → bigX (l.getD j.toNat cal0) = false)) (fun k => (l.length - k).toNat) (0) ⟨Fr.refl _ _, hH, rfl, (by omega), (by omega), fun j a b => absurd b (by omega)⟩ <| ?_
  rintro k sg3 w3 ⟨fr3, hH3, e10_3, h0, hk, hg⟩
  have e8_3 := (fr3 8 rfl).trans (by conv => lhs; whnf)
  have e9_3 := fr3.ii 9 rfl rfl
  refine SR <| V (run_lss e10_3 e9_3) <| RL.nil <| CW.seq <| CW.condP rfl (fun h5 => ?_) (fun h5 => ?_)
  ·refine CW.skip <| CW.seq <| CW.block <| SR <| V (run_indexAddrS (hs.hp hH3) underlying25 sizeOf42 e8_3 e10_3 (by omega)) <| V (run_ldE (dv := cal0) calL_len (hs.hp hH3) underlying42 rfl rfl rfl (by omega)) <| RL.new rfl hH3 (f := fun b => (.pointer (some ⟨b, 0, none⟩))) (run_alloc zero_cal) <| fun b8 w6 hH7 => RL.set hH7 (i := 0) rfl (run_stW (c' := (calL _).toArray) rfl rfl rfl (calL_one (hv.at (by omega) (by omega))) (hH7.blk (i := 0) rfl) rfl) <| fun w9 hH10 => ?_
   simp only [z2] at hH10
   refine RL.nil <| SR <| V (fA underlying42 1 rfl sizeOf36 rfl) <| V (run_ldV ((hv.at (by omega) (by omega)).ins.sl.hp hH10) underlying36 rfl rfl (hH10.cell (i := 0) rfl rfl)) <| V (run_lenSl ((hv.at (by omega) (by omega)).ins.sl.hp hH10) rfl underlying36 rfl) <| V (run_gtr rfl rfl) <| mB rfl <| RL.splitP (dj := 18) rfl (fun h12 => ?_) (fun h12 => ?_)
   ·refine gF rfl (bT h12) <| gF rfl (bT h12) <| gF rfl (bT h12) <| gF rfl (bT h12) <| V (run_pickT (bT h12) (v := B true) rfl) <| RL.nil <| CW.condT rfl <| SR <| va (v := B true) rfl <| RL.nil <| CW.ret <| outP1 Tryz.results6 (congrArg B ?_) hH10.below
    (rw [bigCal, any_yes (d := cal0) (P := bigX) h0 ‹k < _› (by rw [bigX, Bool.or_eq_true]; exact .inl (decide_eq_true (by omega)))]; simp)
   ·refine gT rfl (bF h12) <| V (fA underlying42 2 rfl sizeOf37 rfl) <| gT rfl (bF h12) <| V (run_ldV ((hv.at (by omega) (by omega)).vals.sl.hp hH10) underlying37 rfl rfl (hH10.cell (i := 0) rfl rfl)) <| gT rfl (bF h12) <| V (run_lenSl ((hv.at (by omega) (by omega)).vals.sl.hp hH10) rfl underlying37 rfl) <| gT rfl (bF h12) <| V (run_gtr rfl rfl) <| V (run_pickF (bF h12) (v := B _) rfl) <| RL.nil <| CW.condP rfl (fun h14 => ?_) (fun h14 => ?_)
    ·refine SR <| va (v := B true) rfl <| RL.nil <| CW.ret <| outP1 Tryz.results6 (congrArg B ?_) hH10.below
     (rw [bigCal, any_yes (d := cal0) (P := bigX) h0 ‹k < _› (by rw [bigX, Bool.or_eq_true]; exact .inr (decide_eq_true (by omega)))]; simp)
    ·refine CW.skip <| CW.region <| V (run_add e10_3 rfl (by omega)) <| mI rfl <| RL.nil <| ?_
     refine ⟨k + 1, ?_, fr3.u4.u4.u4.u4, (hH10.sub (sQ sR)), (congrArg I (by rfl)), ?_, ?_, ?_⟩
     ·((try dsimp only); omega)
     ·omega
     ·omega
     ·exact fun j a b => if e : j = k then e ▸ (by rw [bigX, Bool.or_eq_false_iff]; exact ⟨decide_eq_false (by omega), decide_eq_false (by omega)⟩) else hg j a (by omega)
  ·refine CW.exit (id := 0) rfl <| SR <| va (v := B false) rfl <| RL.nil <| CW.ret <| outP1 Tryz.results6 (congrArg B ?_) hH3.below
   (rw [bigCal, any_no (d := cal0) ‹_› hg, decide_eq_false hno]; rfl)
theorem c_clearanceref17_Count (v : Value) (l : List CalR) (q : Int) (w : World) (hs : Sl w v 19 l.length (l.flatMap calL)) : Calls Tryz.prog 16 #[v, I q] w (Pure (I (cntL l q)) w) := by
 have hm := hs.small
 unfold maxLen at hm
 refine enter Tryz.func16 rfl Tryz.ntmps16 rfl <| have hH := Hp.start w; SR <| va (v := I 0) rfl <| RL.nil <| SR <| va (v := I 0) rfl <| RL.nil <| CW.seq <| SR <| va (v := I 0) rfl <| RL.nil <| CW.block <| CW.loop (G := Int × Int) (fun ⟨k, n⟩ s' w' => (Fr (rg 5 25 []) _ s') ∧ (Hp w w' _) ∧ (s' 5 = I n) ∧ (s' 6 = I k) ∧ (0 ≤ k) ∧ (k ≤ l.length) ∧ (n = cntL (l.take k.toNat) q) ∧ (0 ≤ n ∧ n ≤ k)) (fun ⟨k, n⟩ => (l.length - k).toNat) ((0, 0)) ⟨Fr.refl _ _, hH, rfl, rfl, (by omega), (by omega), rfl, ⟨by omega, by omega⟩⟩ <| ?_
 rintro ⟨k, n⟩ sg1 w1 ⟨fr1, hH1, e5_1, e6_1, h0, hk, hn, hnk⟩
 have e0_1 := (fr1 0 rfl).trans (by conv => lhs; whnf)
 have e1_1 := fr1.ii 1 rfl rfl
 refine CW.seq <| SR <| vm e6_1 <| vm e0_1 <| V (run_lenSl (hs.hp hH1) rfl underlying25 rfl) <| V (run_lss rfl rfl) <| RL.nil <| CW.condP rfl (fun h3 => ?_) (fun h3 => ?_)
 ·refine CW.skip <| CW.seq <| CW.block <| SR <| vm e0_1 <| vm e6_1 <| V (run_indexAddrS (hs.hp hH1) underlying25 sizeOf42 rfl rfl (by omega)) <| V (fA underlying42 0 rfl sizeOf3 rfl) <| V (run_ldE1 (dv := cal0) (off := 0) calL_len (hs.hp hH1) underlying3 rfl rfl (by omega) rfl) <| aI rfl <| RL.nil <| CW.seq <| SR <| mI rfl <| V (run_neq rfl rfl) <| mB rfl <| RL.splitP (dj := 21) rfl (fun h5 => ?_) (fun h5 => ?_)
  ·refine gT rfl (bT h5) <| mI rfl <| gT rfl (bT h5) <| V (run_neq rfl rfl) <| V (run_pickT (bT h5) (v := B _) rfl) <| RL.nil <| CW.condP rfl (fun h7 => ?_) (fun h7 => ?_)
   ·refine CW.region <| va (v := I 0) rfl <| RL.nil <| SR <| mI rfl <| vm e1_1 <| V (run_eql rfl rfl) <| RL.nil <| CW.condP rfl (fun h9 => ?_) (fun h9 => ?_)
    ·refine CW.region <| vm e5_1 <| V (run_add rfl rfl (by omega)) <| aI rfl <| RL.nil <| CW.region <| vm e6_1 <| V (run_add rfl rfl (by omega)) <| aI rfl <| RL.nil <| ?_
     refine ⟨(k + 1, n + 1), ?_, fr1.u4.u4.u4.u4.u4.u4.u1.u1, hH1, (congrArg I (by rfl)), (congrArg I (by rfl)), ?_, ?_, ?_, ?_⟩
     ·((try dsimp only); omega)
     ·omega
     ·omega
     ·rw [cnt_nextI h0 ‹k < _› hn]; ((rw [if_pos (by unfold kdN; split <;> omega)]; done))
     ·exact ⟨by omega, by omega⟩
    ·refine CW.skip <| CW.region <| vm e6_1 <| V (run_add rfl rfl (by omega)) <| aI rfl <| RL.nil <| ?_
     refine ⟨(k + 1, n), ?_, fr1.u4.u4.u4.u4.u4.u1.u1.u1, hH1, e5_1, (congrArg I (by rfl)), ?_, ?_, ?_, ?_⟩
     ·((try dsimp only); omega)
     ·omega
     ·omega
     ·rw [cnt_nextI h0 ‹k < _› hn]; (rw [if_neg (by unfold kdN; split <;> omega), Int.add_zero])
     ·exact ⟨by omega, by omega⟩
   ·refine CW.skip <| SR <| mI rfl <| vm e1_1 <| V (run_eql rfl rfl) <| RL.nil <| CW.condP rfl (fun h11 => ?_) (fun h11 => ?_)
    ·refine CW.region <| vm e5_1 <| V (run_add rfl rfl (by omega)) <| aI rfl <| RL.nil <| CW.region <| vm e6_1 <| V (run_add rfl rfl (by omega)) <| aI rfl <| RL.nil <| ?_
     refine ⟨(k + 1, n + 1), ?_, fr1.u4.u4.u4.u4.u4.u4.u1, hH1, (congrArg I (by rfl)), (congrArg I (by rfl)), ?_, ?_, ?_, ?_⟩
     ·((try dsimp only); omega)
     ·omega
     ·omega
     ·rw [cnt_nextI h0 ‹k < _› hn]; ((rw [if_pos (by unfold kdN; split <;> omega)]; done))
     ·exact ⟨by omega, by omega⟩
    ·refine CW.skip <| CW.region <| vm e6_1 <| V (run_add rfl rfl (by omega)) <| aI rfl <| RL.nil <| ?_
     refine ⟨(k + 1, n), ?_, fr1.u4.u4.u4.u4.u4.u1.u1, hH1, e5_1, (congrArg I (by rfl)), ?_, ?_, ?_, ?_⟩
     ·((try dsimp only); omega)
     ·omega
     ·omega
     ·rw [cnt_nextI h0 ‹k < _› hn]; (rw [if_neg (by unfold kdN; split <;> omega), Int.add_zero])
     ·exact ⟨by omega, by omega⟩
  ·refine gF rfl (bF h5) <| gF rfl (bF h5) <| V (run_pickF (bF h5) (v := B false) rfl) <| RL.nil <| CW.condF rfl <| CW.skip <| SR <| mI rfl <| vm e1_1 <| V (run_eql rfl rfl) <| RL.nil <| CW.condP rfl (fun h13 => ?_) (fun h13 => ?_)
   ·refine CW.region <| vm e5_1 <| V (run_add rfl rfl (by omega)) <| aI rfl <| RL.nil <| CW.region <| vm e6_1 <| V (run_add rfl rfl (by omega)) <| aI rfl <| RL.nil <| ?_
    refine ⟨(k + 1, n + 1), ?_, fr1.u4.u4.u4.u4.u4.u4.u1, hH1, (congrArg I (by rfl)), (congrArg I (by rfl)), ?_, ?_, ?_, ?_⟩
    ·((try dsimp only); omega)
    ·omega
    ·omega
    ·rw [cnt_nextI h0 ‹k < _› hn]; ((rw [if_pos (by unfold kdN; split <;> omega)]; done))
    ·exact ⟨by omega, by omega⟩
   ·refine CW.skip <| CW.region <| vm e6_1 <| V (run_add rfl rfl (by omega)) <| aI rfl <| RL.nil <| ?_
    refine ⟨(k + 1, n), ?_, fr1.u4.u4.u4.u4.u4.u1.u1, hH1, e5_1, (congrArg I (by rfl)), ?_, ?_, ?_, ?_⟩
    ·((try dsimp only); omega)
    ·omega
    ·omega
    ·rw [cnt_nextI h0 ‹k < _› hn]; (rw [if_neg (by unfold kdN; split <;> omega), Int.add_zero])
    ·exact ⟨by omega, by omega⟩
 ·refine CW.exit (id := 0) rfl <| SR <| vm e5_1 <| aI rfl <| RL.nil <| CW.ret <| outP1 Tryz.results16 (congrArg I ?_) hH1.below
  (rw [hn, List.take_of_length_le (by omega)])
theorem c_clearanceref17_Do (s : Shp) (x : CalR) (hxl : x.l.length ≤ 1000) (w : World) (hsh : ShpV (Kw w) s) (hx : CalV (Kw w) x) : Calls Tryz.prog 11 #[.agg (shpC s), .agg (calL x).toArray] w (Pure (.agg (ansL (ansS s.sh x)).toArray) w) := by
 refine enter Tryz.func11 rfl Tryz.ntmps11 rfl <| have hH := Hp.start w; SR <| RL.new rfl hH (f := fun b => (.pointer (some ⟨b, 0, none⟩))) (run_box (v := .agg _) rfl) <| fun b3 w1 hH2 => RL.new rfl hH2 (f := fun b => (.pointer (some ⟨b, 0, none⟩))) (run_box (v := .agg _) rfl) <| fun b6 w4 hH5 => RL.new rfl hH5 (f := fun b => (.pointer (some ⟨b, 0, none⟩))) (run_alloc zero_got) <| fun b9 w7 hH8 => RL.nil <| CW.seq <| SR <| V (fA underlying42 0 rfl sizeOf3 rfl) <| V (run_ld underlying3 rfl rfl (hH8.cell (i := 1) rfl (v := I _) rfl)) <| V (run_eql rfl rfl) <| RL.nil <| CW.condP rfl (fun h11 => ?_) (fun h11 => ?_)
 ·refine SR <| V (fA underlying42 3 rfl sizeOf40 rfl) <| V (run_ldElR underlying40 rfl rfl rfl (hH8.blk (i := 1) rfl) (cal_aB _)) <| V (fA underlying42 11 rfl sizeOf40 rfl) <| V (run_ldElR underlying40 rfl rfl rfl (hH8.blk (i := 1) rfl) (cal_bB _)) <| RL.callP rfl hH8 (c_clearanceref07_Leq _ _  _) (run_call2 call22 rfl rfl) <| fun w12 hH13 => V (run_bld (vs := [(1, B _)]) rfl (built_got1 _)) <| RL.set hH13 (i := 0) rfl (run_stW (c' := (ansL _).toArray) rfl rfl rfl (ansL_one _) (hH13.blk (i := 0) rfl) rfl) <| fun w15 hH16 => ?_
  simp only [z2] at hH16
  refine RL.nil <| CW.ret <| outCg Tryz.results11 rfl hH16 (i := 0) rfl underlying44 rfl (by simp only [List.size_toArray, ansL_len]; rfl) ⟨?_, hH16.below⟩
  (rw [ansS, if_pos ‹_›]; done)
 ·refine CW.skip <| CW.seq <| SR <| V (fA underlying42 0 rfl sizeOf3 rfl) <| V (run_ld underlying3 rfl rfl (hH8.cell (i := 1) rfl (v := I _) rfl)) <| V (run_eql rfl rfl) <| RL.nil <| CW.condP rfl (fun h18 => ?_) (fun h18 => ?_)
  ·refine SR <| V (run_ldA (cs := [B _, _]) underlying24 rfl rfl rfl (rangeAt_cells (hH8.blk (i := 2) rfl))) <| V (fA underlying42 3 rfl sizeOf40 rfl) <| V (run_ldElR underlying40 rfl rfl rfl (hH8.blk (i := 1) rfl) (cal_aB _)) <| V (fA underlying42 11 rfl sizeOf40 rfl) <| V (run_ldElR underlying40 rfl rfl rfl (hH8.blk (i := 1) rfl) (cal_bB _)) <| RL.callP rfl hH8 (c_clearanceref07_Join _ _ _  _ (hsh.mono hH8.kw)) (run_call3 call23 rfl rfl rfl) <| fun w19 hH20 => V (run_bld (vs := [(0, .agg (elC _))]) rfl (built_got0 _)) <| RL.set hH20 (i := 0) rfl (run_stW (c' := (ansL _).toArray) rfl rfl rfl (ansL_one _) (hH20.blk (i := 0) rfl) rfl) <| fun w21 hH22 => ?_
   simp only [z2] at hH22
   refine RL.nil <| CW.ret <| outCg Tryz.results11 rfl hH22 (i := 0) rfl underlying44 rfl (by simp only [List.size_toArray, ansL_len]; rfl) ⟨?_, hH22.below⟩
   (rw [ansS, if_neg ‹_›, if_pos ‹_›]; done)
  ·refine CW.skip <| SR <| V (run_ldA (cs := [B _, _]) underlying24 rfl rfl rfl (rangeAt_cells (hH8.blk (i := 2) rfl))) <| V (fA underlying42 1 rfl sizeOf36 rfl) <| V (run_ldV (hx.ins.sl.hp hH8) underlying36 rfl rfl (hH8.cell (i := 1) rfl rfl)) <| V (fA underlying42 2 rfl sizeOf37 rfl) <| V (run_ldV (hx.vals.sl.hp hH8) underlying37 rfl rfl (hH8.cell (i := 1) rfl rfl)) <| RL.callP rfl hH8 (c_clearanceref14_Eval _ _ _ _ _ (by omega) _ (hx.ins.sl.hp hH8) (hx.vals.sl.hp hH8) (hsh.mono hH8.kw)) (run_call3 call24 rfl rfl rfl) <| fun w23 hH24 => ?_
   refine V (run_move (by conv => lhs; whnf)) ?_
   refine V (run_extract rfl (v := .agg _) rfl) <| V (run_extract rfl (v := B _) rfl) <| RL.new rfl hH24 (f := fun b => (.pointer (some ⟨b, 0, none⟩))) (run_alloc zero_el) <| fun b28 w26 hH27 => RL.set hH27 (i := 0) rfl (run_stEl rfl rfl rfl (hH27.blk (i := 0) rfl)) <| fun w29 hH30 => ?_
   simp only [z2] at hH30
   refine aB rfl <| RL.nil <| SR <| V (run_ldEl underlying40 rfl rfl rfl (hH30.blk (i := 0) rfl)) <| mB rfl <| V (run_bld (vs := [(0, .agg (elC _)), (1, B _)]) rfl (built_got01 _ _)) <| RL.set hH30 (i := 1) rfl (run_stW (c' := (ansL _).toArray) rfl rfl rfl (ansL_one _) (hH30.blk (i := 1) rfl) rfl) <| fun w31 hH32 => ?_
   simp only [z2] at hH32
   refine RL.nil <| CW.ret <| outCg Tryz.results11 rfl hH32 (i := 1) rfl underlying44 rfl (by simp only [List.size_toArray, ansL_len]; rfl) ⟨?_, hH32.below⟩
   (rw [ansS, if_neg ‹_›, if_neg ‹_›]; done)
theorem c_clearancelaw17_do (W0 : World) (ids : List Nat) (tl : List (Nat × Rl)) (d : Wr) (n : Nat) (f : Ct) (Zf R : List Ent) (e l j : Value) (x : CalR) (hxl : x.l.length ≤ 1000) (hi : d.inn ids tl) (hf : OkC n f) (hn : n + d.dep ≤ 1000000) (w : World) (hT : Tab W0) (hd : OpsV TX (Kz (Kw W0) R) d e l j) (hx : CalV (Kz (Kw W0) R) x) (hZ : TalZ TX ids f tl Zf) (hH : Hp W0 w (Zf ++ R)) : Calls Tryz.prog 10 #[.agg #[e, l, j], .agg (calL x).toArray] w (Ret fun u w' => u = .agg (ansL (ansW d x)).toArray ∧ ∃ Z', TalZ TX ids (d.tick (kdOf x) f) tl Z' ∧ Hp W0 w' (Z' ++ R)) := by
 obtain ⟨f1, f2, f3, a1, a2, a3, rfl, rfl, rfl⟩ := hd.one
 have hxw := hx.mono (hH.kz (Le.refl _) (Z := R) fun y hy => List.mem_append_right _ hy)
 refine enter Tryz.func10 rfl Tryz.ntmps10 rfl <| SR <| RL.new rfl hH (f := fun b => (.pointer (some ⟨b, 0, none⟩))) (run_box (v := .agg _) rfl) <| fun b3 w1 hH2 => RL.new rfl hH2 (f := fun b => (.pointer (some ⟨b, 0, none⟩))) (run_box (v := .agg _) rfl) <| fun b6 w4 hH5 => RL.new rfl hH5 (f := fun b => (.pointer (some ⟨b, 0, none⟩))) (run_alloc zero_got) <| fun b9 w7 hH8 => RL.nil <| CW.seq <| SR <| V (fA underlying42 0 rfl sizeOf3 rfl) <| V (run_ld underlying3 rfl rfl (hH8.cell (i := 1) rfl (v := I _) rfl)) <| RL.nil <| CW.block <| SR <| V (run_eql rfl rfl) <| aB rfl <| RL.nil <| CW.condP rfl (fun h11 => ?_) (fun h11 => ?_)
 ·refine SR <| V (fA underlying33 1 rfl sizeOf30 rfl) <| V (run_ld underlying30 rfl rfl (hH8.cell (i := 2) rfl (v := .func _ _ _) rfl)) <| V (fA underlying42 3 rfl sizeOf40 rfl) <| V (run_ldElR underlying40 rfl rfl rfl (hH8.blk (i := 1) rfl) (cal_aB _)) <| V (fA underlying42 11 rfl sizeOf40 rfl) <| V (run_ldElR underlying40 rfl rfl rfl (hH8.blk (i := 1) rfl) (cal_bB _)) <| ?_
  obtain ⟨fq13, cq14, hq15, hfq16, hcq17⟩ := call_l W0 ids tl hT x.a x.b d n f Zf ([_, _, _] ++ R) _ _ _ _ (hd.mono (Le.zz fun x hx => List.mem_append_right _ hx)) hi hZ hf hn  (Hp.frontZ (A := [_, _, _]) (Zf := Zf) (R := R) hH8)
  refine RL.callT rfl hcq17 (run_callC2 hfq16 (cs := cq14) hq15 rfl rfl) ?_
  rintro _ w18 ⟨rfl, Z21, hZ22, h19⟩
  have hH20 : Hp _ w18 (_ :: _ :: _ :: (Z21 ++ R)) := Hp.backZ (A := [_, _, _]) h19
  refine V (run_bld (vs := [(1, B _)]) rfl (built_got1 _)) <| RL.set hH20 (i := 0) rfl (run_stW (c' := (ansL _).toArray) rfl rfl rfl (ansL_one _) (hH20.blk (i := 0) rfl) rfl) <| fun w23 hH24 => ?_
  simp only [z2] at hH24
  refine RL.nil <| CW.ret <| outCg Tryz.results10 rfl hH24 (i := 0) rfl underlying44 rfl (by simp only [List.size_toArray, ansL_len]; rfl) ⟨?_, Z21, ?_, hH24.sub (sQ (sQ (sQ sR)))⟩
  ·(rw [ansW, if_pos ‹_›]; done)
  ·(rw [kdOf, if_pos ‹_›]; exact hZ22)
 ·refine SR <| V (run_eql rfl rfl) <| aB rfl <| RL.nil <| CW.condP rfl (fun h26 => ?_) (fun h26 => ?_)
  ·refine SR <| V (fA underlying33 2 rfl sizeOf31 rfl) <| V (run_ld underlying31 rfl rfl (hH8.cell (i := 2) rfl (v := .func _ _ _) rfl)) <| V (fA underlying42 3 rfl sizeOf40 rfl) <| V (run_ldElR underlying40 rfl rfl rfl (hH8.blk (i := 1) rfl) (cal_aB _)) <| V (fA underlying42 11 rfl sizeOf40 rfl) <| V (run_ldElR underlying40 rfl rfl rfl (hH8.blk (i := 1) rfl) (cal_bB _)) <| ?_
   obtain ⟨fq27, cq28, hq29, hfq30, hcq31⟩ := call_j W0 ids tl hT x.a x.b d n f Zf ([_, _, _] ++ R) _ _ _ _ (hd.mono (Le.zz fun x hx => List.mem_append_right _ hx)) hi hZ hf hn  (Hp.frontZ (A := [_, _, _]) (Zf := Zf) (R := R) hH8)
   refine RL.callT rfl hcq31 (run_callC2 hfq30 (cs := cq28) hq29 rfl rfl) ?_
   rintro _ w32 ⟨rfl, Z35, hZ36, h33⟩
   have hH34 : Hp _ w32 (_ :: _ :: _ :: (Z35 ++ R)) := Hp.backZ (A := [_, _, _]) h33
   refine V (run_bld (vs := [(0, .agg (elC _))]) rfl (built_got0 _)) <| RL.set hH34 (i := 0) rfl (run_stW (c' := (ansL _).toArray) rfl rfl rfl (ansL_one _) (hH34.blk (i := 0) rfl) rfl) <| fun w37 hH38 => ?_
   simp only [z2] at hH38
   refine RL.nil <| CW.ret <| outCg Tryz.results10 rfl hH38 (i := 0) rfl underlying44 rfl (by simp only [List.size_toArray, ansL_len]; rfl) ⟨?_, Z35, ?_, hH38.sub (sQ (sQ (sQ sR)))⟩
   ·(rw [ansW, if_neg ‹_›, if_pos ‹_›]; done)
   ·(rw [kdOf, if_neg ‹_›, if_pos ‹_›]; exact hZ36)
  ·refine CW.skip <| SR <| V (fA underlying33 0 rfl sizeOf29 rfl) <| V (run_ld underlying29 rfl rfl (hH8.cell (i := 2) rfl (v := .func _ _ _) rfl)) <| V (fA underlying42 1 rfl sizeOf36 rfl) <| V (run_ldV hxw.ins.sl underlying36 rfl rfl (hH8.cell (i := 1) rfl rfl)) <| V (fA underlying42 2 rfl sizeOf37 rfl) <| V (run_ldV hxw.vals.sl underlying37 rfl rfl (hH8.cell (i := 1) rfl rfl)) <| ?_
   obtain ⟨fq39, cq40, hq41, hfq42, hcq43⟩ := call_e W0 ids tl hT x.lv x.l x.vv x.v hxl d n f Zf ([_, _, _] ++ R) _ _ _ _ (hd.mono (Le.zz fun x hx => List.mem_append_right _ hx)) hi hZ hf hn (hx.ins.mono (Le.zz fun x hx => List.mem_append_right _ hx)) (hx.vals.mono (Le.zz fun x hx => List.mem_append_right _ hx)) (Hp.frontZ (A := [_, _, _]) (Zf := Zf) (R := R) hH8)
   refine RL.callT rfl hcq43 (run_callC2 hfq42 (cs := cq40) hq41 rfl rfl) ?_
   rintro _ w44 ⟨rfl, Z47, hZ48, h45⟩
   have hH46 : Hp _ w44 (_ :: _ :: _ :: (Z47 ++ R)) := Hp.backZ (A := [_, _, _]) h45
   refine V (run_move (by conv => lhs; whnf)) ?_
   refine V (run_extract rfl (v := .agg _) rfl) <| V (run_extract rfl (v := B _) rfl) <| RL.new rfl hH46 (f := fun b => (.pointer (some ⟨b, 0, none⟩))) (run_alloc zero_el) <| fun b52 w50 hH51 => RL.set hH51 (i := 0) rfl (run_stEl rfl rfl rfl (hH51.blk (i := 0) rfl)) <| fun w53 hH54 => ?_
   simp only [z2] at hH54
   refine aB rfl <| RL.nil <| SR <| V (run_ldEl underlying40 rfl rfl rfl (hH54.blk (i := 0) rfl)) <| mB rfl <| V (run_bld (vs := [(0, .agg (elC _)), (1, B _)]) rfl (built_got01 _ _)) <| RL.set hH54 (i := 1) rfl (run_stW (c' := (ansL _).toArray) rfl rfl rfl (ansL_one _) (hH54.blk (i := 1) rfl) rfl) <| fun w55 hH56 => ?_
   simp only [z2] at hH56
   refine RL.nil <| CW.ret <| outCg Tryz.results10 rfl hH56 (i := 1) rfl underlying44 rfl (by simp only [List.size_toArray, ansL_len]; rfl) ⟨?_, Z47, ?_, hH56.sub (sQ (sQ (sQ (sQ sR))))⟩
   ·(rw [ansW, if_neg ‹_›, if_neg ‹_›]; done)
   ·(rw [kdOf, if_neg ‹_›, if_neg ‹_›]; exact hZ48)
section
variable {W0 w : World} {ids : List Nat} {tl : List (Nat × Rl)} {d : Wr} {n m : Nat} {f : Ct} {Zf R A : List Ent} {e l j : Value} {x : CalR} {s : Sh}
theorem m_do (hT : Tab W0) (hxl : x.l.length ≤ 1000) (hi : d.inn ids tl) (hs : d.sh.sh = s) (hf : OkC n f) (hn : n + d.dep ≤ 1000000) (hd : OpsV TX (Kz (Kw W0) R) d e l j) (hx : CalV (Kz (Kw W0) R) x) (hZ : TalZ TX ids f tl Zf) (hH : Hp W0 w (A ++ (Zf ++ R))) :
  Calls Tryz.prog 10 #[.agg #[e, l, j], .agg (calL x).toArray] w (Ret fun u w' => u = .agg (ansL (ansS s x)).toArray ∧ ∃ Z', TalZ TX ids (d.tick (kdOf x) f) tl Z' ∧ Hp W0 w' (A ++ (Z' ++ R))) :=
 (c_clearancelaw17_do W0 ids tl d n f Zf (A ++ R) e l j x hxl hi hf hn w hT (hd.mono (Le.zz fun y hy => List.mem_append_right _ hy)) (hx.mono (Le.zz fun y hy => List.mem_append_right _ hy)) hZ hH.frontZ).mono fun y w' hy => Ret.mono (fun u w2 h => ⟨h.1.trans (by rw [ans_is hi hs]), h.2.elim fun Z' q => ⟨Z', q.1, Hp.backZ (A := A) q.2⟩⟩) hy
theorem got_same (a : El × Bool) : EqT Tryz.prog 44 (ansL a).toArray (ansL a).toArray true := (eq_got a a).conv (by simp [eqE_rfl])
theorem cnt_same {a b c a' b' c' : Int} (h1 : a = a') (h2 : b = b') (h3 : c = c') : EqT Tryz.prog 52 #[I a, I b, I c] #[I a', I b', I c'] true := (eq_cnt ..).conv (by simp [h1, h2, h3])
end
section
variable {W0 w : World} {ids : List Nat} {tl : List (Nat × Rl)} {d : Wr} {n m : Nat} {f : Ct} {Zf R A : List Ent} {e l j : Value} {x : CalR} {s : Sh}
theorem m_Clear (hm : m ∈ ids) (hZ : TalZ TX ids f tl Zf) (hH : Hp W0 w (A ++ (Zf ++ R))) : Calls Tryz.prog 14 #[pt m] w (Ret fun u w' => u = .tuple #[] ∧ ∃ Z', TalZ TX ids (putM f m cn0) tl Z' ∧ Hp W0 w' (A ++ (Z' ++ R))) := by
 obtain ⟨Y, hp, hq⟩ := hZ.pick hm (R := A ++ R) hH.frontZ
 obtain ⟨Z1, hz1, hp1⟩ := hq cn0
 refine (c_tally_Meter_Clear W0 m (f m) (Y ++ (A ++ R)) w ?_).mono fun y w' hy => Ret.mono (fun u w2 h => ⟨h.1, Z1, hz1, Hp.backZ (A := A) ?_⟩) hy
 ·exact hH.frontZ.perm (hp.append_right _)
 ·exact Hp.perm (L := ([blkM TX m cn0] ++ Y) ++ (A ++ R)) h.2 (hp1.append_right _)
end
section
variable {W0 w : World} {ids : List Nat} {tl : List (Nat × Rl)} {d : Wr} {n m : Nat} {f : Ct} {Zf R A : List Ent} {e l j : Value} {x : CalR} {s : Sh}
theorem m_Read (hm : m ∈ ids) (hZ : TalZ TX ids f tl Zf) {L : List Ent} (hH : Hp W0 w L) (hs : ∀ x, x ∈ Zf → x ∈ L) : Calls Tryz.prog 15 #[pt m] w (Pure (.agg #[I (f m).e, I (f m).l, I (f m).j]) w) :=
 c_tally_Meter_Read m (f m) w (hZ.blk hm hH hs)
end
theorem c_clearancelaw17_alive  (w : World) (hT : Tab w) : Calls Tryz.prog 7 #[] w (Pure (B true) w) := by
 refine enter Tryz.func7 rfl Tryz.ntmps7 rfl <| have hH := Hp.start w; SR <| va (v := B false) rfl <| RL.nil <| SR <| RL.callT rfl (c_tally_New _) (run_call0 call12) <| ?_
 rintro _ w4 ⟨m3, rfl, h5⟩
 have hH6 : Hp _ w4 (blkM TX m3 cn0 :: []) := hH.callZ h5
 refine va (v := Pn _ _) rfl <| RL.nil <| SR <| vm (v := Pn _ _) rfl <| RL.new rfl hH6 (f := fun b => (.slice (some ⟨b, 0, none⟩) 2 2)) (run_mkL underlying56 rfl rfl (sz := 1) (vs := [.string ⟨#[97]⟩, .string ⟨#[98]⟩]) rfl rfl (by decide) (by decide) rfl rfl) <| fun b9 w7 hH8 => ?_
 (try simp only [clX] at hH8)
 have hH10 : Hp _ w7 (_ :: [Ent.blk b9 (.cells (txL exAB).toArray 9 (0, 0))]) := Hp.zin0 (Z := [Ent.blk b9 (.cells (txL exAB).toArray 9 (0, 0))]) (L := [_]) hH8
 have hv11 : SlV (Kz (Kw w) [Ent.blk b9 (.cells (txL exAB).toArray 9 (0, 0))]) (.slice (some ⟨b9, 0, none⟩) 2 2) 1 2 (txL exAB) := slv_blk (List.mem_cons_self ..) rfl (by simp [maxLen])
 refine V (run_bld (vs := [(0, I 2), (1, .slice (some ⟨b9, 0, none⟩) 2 2)]) rfl (built_fac 2 b9 2 exAB)) <| RL.new rfl hH10 (f := fun b => (.slice (some ⟨b, 0, none⟩) 1 1)) (run_mkFacs underlying22 rfl rfl rfl (l := [_]) rfl (by decide) (by decide) rfl) <| fun b14 w12 hH13 => have hH15 : Hp _ w12 (_ :: ([Ent.blk b14 (.cells ([(⟨2, .slice (some ⟨b9, 0, none⟩) 2 2, exAB, Rl.none⟩ : Fac)].flatMap facL).toArray 61 (0, 0))] ++ [Ent.blk b9 (.cells (txL exAB).toArray 9 (0, 0))])) := Hp.zin (Z := [Ent.blk b14 (.cells ([(⟨2, .slice (some ⟨b9, 0, none⟩) 2 2, exAB, Rl.none⟩ : Fac)].flatMap facL).toArray 61 (0, 0))]) (L := [_]) (L' := [Ent.blk b9 (.cells (txL exAB).toArray 9 (0, 0))]) hH13; have hv16 : SlV (Kz (Kw w) [Ent.blk b14 (.cells ([(⟨2, .slice (some ⟨b9, 0, none⟩) 2 2, exAB, Rl.none⟩ : Fac)].flatMap facL).toArray 61 (0, 0))]) (.slice (some ⟨b14, 0, none⟩) 1 1) 67 1 ([(⟨2, .slice (some ⟨b9, 0, none⟩) 2 2, exAB, Rl.none⟩ : Fac)].flatMap facL) := slv_blk (List.mem_cons_self ..) (flat_length facL_len _) (by simp [maxLen]); V (run_bld (vs := [(1, .slice (some ⟨b14, 0, none⟩) 1 1)]) rfl (built_shp1 rfl)) <| have hs17 : ShpV (Kz (Kw w) ([Ent.blk b14 (.cells ([(⟨2, .slice (some ⟨b9, 0, none⟩) 2 2, exAB, Rl.none⟩ : Fac)].flatMap facL).toArray 61 (0, 0))] ++ [Ent.blk b9 (.cells (txL exAB).toArray 9 (0, 0))])) (⟨false, .slice (some ⟨b14, 0, none⟩) 1 1, [(⟨2, .slice (some ⟨b9, 0, none⟩) 2 2, exAB, Rl.none⟩ : Fac)]⟩ : Shp) := ⟨(hv16.mono (Le.zz (fun x hx => (List.mem_append_left _ hx)))), fun x hx => by rw [List.mem_singleton.1 hx]; exact ⟨(hv11.mono (Le.zz (fun x hx => (List.mem_append_right _ hx))))⟩⟩; RL.callT rfl (c_tally_Of (Kz (Kw w) ([Ent.blk b14 (.cells ([(⟨2, .slice (some ⟨b9, 0, none⟩) 2 2, exAB, Rl.none⟩ : Fac)].flatMap facL).toArray 61 (0, 0))] ++ [Ent.blk b9 (.cells (txL exAB).toArray 9 (0, 0))])) _ (by simp) (fun f hf => by rw [List.mem_singleton.1 hf]; exact (show List.length exAB ≤ 1000 by decide)) _ (hH15.kz (Le.refl _) (fun x hx => (mT hx))) hs17) (run_call1 call8 rfl) <| ?_
 rintro _ w20 ⟨f1, f2, f3, a1, a2, a3, p21, tb22, tl23, Zt24, Zq25, rfl, hd26, hp27, hto28, htl29, hzt30, h31⟩
 have h31a : Hp _ w20 ((Zt24 ++ Zq25) ++ ([] ++ ([_] ++ ([Ent.blk b14 (.cells ([(⟨2, .slice (some ⟨b9, 0, none⟩) 2 2, exAB, Rl.none⟩ : Fac)].flatMap facL).toArray 61 (0, 0))] ++ [Ent.blk b9 (.cells (txL exAB).toArray 9 (0, 0))])))) := Hp.callZ hH15 h31
 obtain ⟨Zf32, hZ33, hH34⟩ : ∃ Zf, TalZ TX [m3] ct0 ([] ++ tl23) Zf ∧ Hp _ w20 ((Zf ++ (Zq25 ++ ([Ent.blk b14 (.cells ([(⟨2, .slice (some ⟨b9, 0, none⟩) 2 2, exAB, Rl.none⟩ : Fac)].flatMap facL).toArray 61 (0, 0))] ++ [Ent.blk b9 (.cells (txL exAB).toArray 9 (0, 0))])))) := ⟨_, TalZ.app (⟨[], rfl, rfl⟩ : TalZ TX [m3] ct0 [] _) hzt30, Hp.putZ2 (A := []) h31a⟩
 have hO35 := hd26.mono Le.kk
 have hi36 : (Wr.base p21 tb22).inn [m3] ([] ++ tl23) := ⟨hto28, fun i hi q hq => htl29 i hi q hq⟩
 refine RL.callF rfl hH34 (c_tally_Meter_Wrap (Kz (Kw w) (Zq25 ++ ([Ent.blk b14 (.cells ([(⟨2, .slice (some ⟨b9, 0, none⟩) 2 2, exAB, Rl.none⟩ : Fac)].flatMap facL).toArray 61 (0, 0))] ++ [Ent.blk b9 (.cells (txL exAB).toArray 9 (0, 0))]))) m3 _ _ _ _ _ (hH34.kz (Le.refl _) (fun x hx => (List.mem_append_right _ hx))) hO35) (run_call2 call13 rfl rfl) <| fun v39 w40 Z42 hH41 hp43 => have hH44 : Hp _ w40 ((Z42 ++ (Zf32 ++ (Zq25 ++ ([Ent.blk b14 (.cells ([(⟨2, .slice (some ⟨b9, 0, none⟩) 2 2, exAB, Rl.none⟩ : Fac)].flatMap facL).toArray 61 (0, 0))] ++ [Ent.blk b9 (.cells (txL exAB).toArray 9 (0, 0))]))))) := hH41.zin (L := []) (L' := (Zf32 ++ (Zq25 ++ ([Ent.blk b14 (.cells ([(⟨2, .slice (some ⟨b9, 0, none⟩) 2 2, exAB, Rl.none⟩ : Fac)].flatMap facL).toArray 61 (0, 0))] ++ [Ent.blk b9 (.cells (txL exAB).toArray 9 (0, 0))])))); have hH46 : Hp _ w40 ((Zf32 ++ (Z42 ++ (Zq25 ++ ([Ent.blk b14 (.cells ([(⟨2, .slice (some ⟨b9, 0, none⟩) 2 2, exAB, Rl.none⟩ : Fac)].flatMap facL).toArray 61 (0, 0))] ++ [Ent.blk b9 (.cells (txL exAB).toArray 9 (0, 0))]))))) := Hp.swz (A := []) hH44; ?_
 obtain ⟨q147, q248, q349, q450, q551, q652, rfl, hw53⟩ := hp43
 refine RL.new rfl hH46 (f := fun b => (.pointer (some ⟨b, 0, none⟩))) (run_alloc zero_ops) <| fun b56 w54 hH55 => RL.set hH55 (i := 0) rfl (run_stW rfl rfl rfl (by simp [Value.oneCell', pt, fnV]) (hH55.blk (i := 0) rfl) rfl) <| fun w57 hH58 => ?_
 simp only [z2] at hH58
 refine RL.nil <| CW.seq <| SR <| V (run_ldA (cs := [_, _, _]) underlying33 rfl rfl rfl (rangeAt_cells (hH58.blk (i := 0) rfl))) <| RL.callP rfl hH58 (c_clearancelaw17_whole _ _ _ _ _ _ (hw53.mono Le.kk)) (run_call1 call9 rfl) <| fun w59 hH60 => V (run_not rfl) <| RL.nil <| CW.condF rfl <| CW.skip <| CW.seq <| have hJ17 := exJ (d := (Wr.wrap m3 (Wr.base p21 tb22))) (show (Wr.wrap m3 (Wr.base p21 tb22)).inn _ _ from ⟨by simp, hi36⟩) (hp27.trans rfl); CW.regionS (by kernel_rfl) hH60 (sP (sA sR)) <| fun w62 hH63 => have zh63 := hH63.sub (sP (sA sR)); AQ 0 rfl zh63 (fA underlying33 1 rfl sizeOf30 rfl) <| AT 1 rfl zh63 (fun w hS => run_ld underlying30 rfl rfl (hS.cell (i := 0) rfl (v := .func _ _ _) rfl)) <| AQ 2 rfl zh63 (run_bld (vs := [(0, U 1#64)]) rfl (built_el1 _)) <| AQ 3 rfl zh63 (run_bld (vs := [(0, U 3#64)]) rfl (built_el1 _)) <| AQ 5 rfl zh63 (fA underlying33 1 rfl sizeOf30 rfl) <| AT 6 rfl zh63 (fun w hS => run_ld underlying30 rfl rfl (hS.cell (i := 0) rfl (v := .func _ _ _) rfl)) <| AQ 7 rfl zh63 (run_bld (vs := [(0, U 2#64)]) rfl (built_el1 _)) <| AQ 8 rfl zh63 (run_bld (vs := [(0, U 1#64)]) rfl (built_el1 _)) <| AQ 10 rfl zh63 (fA underlying33 2 rfl sizeOf31 rfl) <| AT 11 rfl zh63 (fun w hS => run_ld underlying31 rfl rfl (hS.cell (i := 0) rfl (v := .func _ _ _) rfl)) <| AQ 12 rfl zh63 (run_bld (vs := [(0, U 1#64)]) rfl (built_el1 _)) <| AQ 13 rfl zh63 (run_bld (vs := [(0, U 2#64)]) rfl (built_el1 _)) <| AN.two 4 15 (by kernel_rfl) ?_ ?_
 ·obtain ⟨fq66, cq67, hq68, hfq69, hcq70⟩ := call_l w [m3] _ hT exE1 exE3 (Wr.wrap m3 (Wr.base p21 tb22)) _ ct0 _ ([_] ++ (Z42 ++ (Zq25 ++ ([Ent.blk b14 (.cells ([(⟨2, .slice (some ⟨b9, 0, none⟩) 2 2, exAB, Rl.none⟩ : Fac)].flatMap facL).toArray 61 (0, 0))] ++ [Ent.blk b9 (.cells (txL exAB).toArray 9 (0, 0))])))) _ _ _ _ ((hw53.mono Le.kk).mono (Le.zz fun y hy => List.mem_append_right _ hy)) (show (Wr.wrap m3 (Wr.base p21 tb22)).inn _ _ from ⟨by simp, hi36⟩) hZ33 OkC.zero (by simp only [Wr.dep]; omega) (Hp.frontZ (A := [_]) hH63)
  refine AO.callT rfl gnone rfl hcq70 (run_callC2 hfq69 (cs := cq67) hq68 rfl rfl) (fun u w' ⟨_, Z', _, h⟩ => Hp.sub (L := _ :: (Z' ++ (Z42 ++ (Zq25 ++ ([Ent.blk b14 (.cells ([(⟨2, .slice (some ⟨b9, 0, none⟩) 2 2, exAB, Rl.none⟩ : Fac)].flatMap facL).toArray 61 (0, 0))] ++ [Ent.blk b9 (.cells (txL exAB).toArray 9 (0, 0))]))))) (Hp.backZ (A := [_]) h) (sP (sA sR))) ?_
  rintro _ w71 ⟨rfl, Z72, hZ73, h74⟩
  have hH75 : Hp _ w71 (_ :: (Z72 ++ (Z42 ++ (Zq25 ++ ([Ent.blk b14 (.cells ([(⟨2, .slice (some ⟨b9, 0, none⟩) 2 2, exAB, Rl.none⟩ : Fac)].flatMap facL).toArray 61 (0, 0))] ++ [Ent.blk b9 (.cells (txL exAB).toArray 9 (0, 0))]))))) := Hp.backZ (A := [_]) h74
  refine AN.two 9 15 (by kernel_rfl) ?_ ?_
  ·obtain ⟨fq79, cq80, hq81, hfq82, hcq83⟩ := call_l w [m3] _ hT exE2 exE1 (Wr.wrap m3 (Wr.base p21 tb22)) _ ((Wr.wrap m3 (Wr.base p21 tb22)).tick .l ct0) _ ([_] ++ (Z42 ++ (Zq25 ++ ([Ent.blk b14 (.cells ([(⟨2, .slice (some ⟨b9, 0, none⟩) 2 2, exAB, Rl.none⟩ : Fac)].flatMap facL).toArray 61 (0, 0))] ++ [Ent.blk b9 (.cells (txL exAB).toArray 9 (0, 0))])))) _ _ _ _ ((hw53.mono Le.kk).mono (Le.zz fun y hy => List.mem_append_right _ hy)) (show (Wr.wrap m3 (Wr.base p21 tb22)).inn _ _ from ⟨by simp, hi36⟩) hZ73 (OkC.zero.ticks (d := (Wr.wrap m3 (Wr.base p21 tb22))) _) (by simp only [Wr.dep]; omega) (Hp.frontZ (A := [_]) hH75)
   refine AO.callT rfl gnone rfl hcq83 (run_callC2 hfq82 (cs := cq80) hq81 rfl rfl) (fun u w' ⟨_, Z', _, h⟩ => Hp.sub (L := _ :: (Z' ++ (Z42 ++ (Zq25 ++ ([Ent.blk b14 (.cells ([(⟨2, .slice (some ⟨b9, 0, none⟩) 2 2, exAB, Rl.none⟩ : Fac)].flatMap facL).toArray 61 (0, 0))] ++ [Ent.blk b9 (.cells (txL exAB).toArray 9 (0, 0))]))))) (Hp.backZ (A := [_]) h) (sP (sA sR))) ?_
   rintro _ w84 ⟨rfl, Z85, hZ86, h87⟩
   have hH88 : Hp _ w84 (_ :: (Z85 ++ (Z42 ++ (Zq25 ++ ([Ent.blk b14 (.cells ([(⟨2, .slice (some ⟨b9, 0, none⟩) 2 2, exAB, Rl.none⟩ : Fac)].flatMap facL).toArray 61 (0, 0))] ++ [Ent.blk b9 (.cells (txL exAB).toArray 9 (0, 0))]))))) := Hp.backZ (A := [_]) h87
   refine AN.two 14 15 (by kernel_rfl) ?_ ?_
   ·obtain ⟨fq92, cq93, hq94, hfq95, hcq96⟩ := call_j w [m3] _ hT exE1 exE2 (Wr.wrap m3 (Wr.base p21 tb22)) _ ((Wr.wrap m3 (Wr.base p21 tb22)).tick .l ((Wr.wrap m3 (Wr.base p21 tb22)).tick .l ct0)) _ ([_] ++ (Z42 ++ (Zq25 ++ ([Ent.blk b14 (.cells ([(⟨2, .slice (some ⟨b9, 0, none⟩) 2 2, exAB, Rl.none⟩ : Fac)].flatMap facL).toArray 61 (0, 0))] ++ [Ent.blk b9 (.cells (txL exAB).toArray 9 (0, 0))])))) _ _ _ _ ((hw53.mono Le.kk).mono (Le.zz fun y hy => List.mem_append_right _ hy)) (show (Wr.wrap m3 (Wr.base p21 tb22)).inn _ _ from ⟨by simp, hi36⟩) hZ86 ((OkC.zero.ticks (d := (Wr.wrap m3 (Wr.base p21 tb22))) _).ticks (d := (Wr.wrap m3 (Wr.base p21 tb22))) _) (by simp only [Wr.dep]; omega) (Hp.frontZ (A := [_]) hH88)
    refine AO.callT rfl gnone rfl hcq96 (run_callC2 hfq95 (cs := cq93) hq94 rfl rfl) (fun u w' ⟨_, Z', _, h⟩ => Hp.sub (L := _ :: (Z' ++ (Z42 ++ (Zq25 ++ ([Ent.blk b14 (.cells ([(⟨2, .slice (some ⟨b9, 0, none⟩) 2 2, exAB, Rl.none⟩ : Fac)].flatMap facL).toArray 61 (0, 0))] ++ [Ent.blk b9 (.cells (txL exAB).toArray 9 (0, 0))]))))) (Hp.backZ (A := [_]) h) (sP (sA sR))) ?_
    rintro _ w97 ⟨rfl, Z98, hZ99, h100⟩
    have hH101 : Hp _ w97 (_ :: (Z98 ++ (Z42 ++ (Zq25 ++ ([Ent.blk b14 (.cells ([(⟨2, .slice (some ⟨b9, 0, none⟩) 2 2, exAB, Rl.none⟩ : Fac)].flatMap facL).toArray 61 (0, 0))] ++ [Ent.blk b9 (.cells (txL exAB).toArray 9 (0, 0))]))))) := Hp.backZ (A := [_]) h100
    refine A1 15 <| AO.new rfl gnone rfl hH101 (sP (sA sR)) (f := fun b => .pointer (some ⟨b, 0, none⟩)) (run_alloc zero_el) <| fun b104 w102 hH103 => AQ 16 rfl (hH103.sub (sQ (sP (sA sR)))) (aV (B _) rfl) <| AQ 17 rfl (hH103.sub (sQ (sP (sA sR)))) (aV (B _) rfl) <| A1 18 <| AO.set rfl gnone hH103 (j := 0) rfl (sQ (sP (sA sR))) (run_stEl rfl rfl rfl (hH103.blk (i := 0) rfl)) <| fun w107 hH108 => ?_
    simp only [z2] at hH108
    refine AD <| SR <| mB rfl <| mB rfl <| gT rfl (bR (c := true) (exL1)) <| mB rfl <| gT rfl (bR (c := true) (exL1)) <| V (run_not (bR (c := false) (exL2))) <| V (run_pickT (bR (c := true) (exL1)) (v := B _) rfl) <| mB rfl <| gT rfl rfl <| V (run_ldEl underlying40 rfl rfl rfl (hH108.blk (i := 0) rfl)) <| gT rfl rfl <| V (run_bld (vs := [(0, U 3#64)]) rfl (built_el1 _)) <| gT rfl rfl <| V (run_eqlEl elT_fact rfl rfl) <| V (run_pickT rfl (v := B _) rfl) <| mB rfl <| gT rfl (bT (hJ17)) <| vm (v := Pn _ _) rfl <| gT rfl (bT (hJ17)) <| RL.callP rfl hH108 (m_Read (m := m3) (by simp) hZ99 hH108 (fun x hx => (mT (mT (List.mem_append_left _ hx))))) (run_call1 call15 rfl) <| fun w110 hH111 => gT rfl (bT (hJ17)) <| V (run_bld (vs := [(1, I _), (2, I _)]) rfl (built_cnt12 _ _)) <| gT rfl (bT (hJ17)) <| V (run_eqlT (cnt_same (by simp [Wr.tick, tick1, putM, Kd.up, ct0, cn0]) (by simp [Wr.tick, tick1, putM, Kd.up, ct0, cn0]) (by simp [Wr.tick, tick1, putM, Kd.up, ct0, cn0])) rfl rfl) <| V (run_pickT (bT (hJ17)) (v := B _) rfl) <| aB rfl <| RL.nil <| CW.ret <| outP1 Tryz.results7 (congrArg B ?_) hH111.below
    rfl
   ·refine AO.new rfl gnone rfl hH88 (sP (sA sR)) (f := fun b => .pointer (some ⟨b, 0, none⟩)) (run_alloc zero_el) <| fun b114 w112 hH113 => A1 14 <| ?_
    obtain ⟨fq117, cq118, hq119, hfq120, hcq121⟩ := call_j w [m3] _ hT exE1 exE2 (Wr.wrap m3 (Wr.base p21 tb22)) _ ((Wr.wrap m3 (Wr.base p21 tb22)).tick .l ((Wr.wrap m3 (Wr.base p21 tb22)).tick .l ct0)) _ ([_, _] ++ (Z42 ++ (Zq25 ++ ([Ent.blk b14 (.cells ([(⟨2, .slice (some ⟨b9, 0, none⟩) 2 2, exAB, Rl.none⟩ : Fac)].flatMap facL).toArray 61 (0, 0))] ++ [Ent.blk b9 (.cells (txL exAB).toArray 9 (0, 0))])))) _ _ _ _ ((hw53.mono Le.kk).mono (Le.zz fun y hy => List.mem_append_right _ hy)) (show (Wr.wrap m3 (Wr.base p21 tb22)).inn _ _ from ⟨by simp, hi36⟩) hZ86 ((OkC.zero.ticks (d := (Wr.wrap m3 (Wr.base p21 tb22))) _).ticks (d := (Wr.wrap m3 (Wr.base p21 tb22))) _) (by simp only [Wr.dep]; omega) (Hp.frontZ (A := [_, _]) hH113)
    refine AO.callT rfl gnone rfl hcq121 (run_callC2 hfq120 (cs := cq118) hq119 rfl rfl) (fun u w' ⟨_, Z', _, h⟩ => Hp.sub (L := _ :: _ :: (Z' ++ (Z42 ++ (Zq25 ++ ([Ent.blk b14 (.cells ([(⟨2, .slice (some ⟨b9, 0, none⟩) 2 2, exAB, Rl.none⟩ : Fac)].flatMap facL).toArray 61 (0, 0))] ++ [Ent.blk b9 (.cells (txL exAB).toArray 9 (0, 0))]))))) (Hp.backZ (A := [_, _]) h) (sQ (sP (sA sR)))) ?_
    rintro _ w122 ⟨rfl, Z123, hZ124, h125⟩
    have hH126 : Hp _ w122 (_ :: _ :: (Z123 ++ (Z42 ++ (Zq25 ++ ([Ent.blk b14 (.cells ([(⟨2, .slice (some ⟨b9, 0, none⟩) 2 2, exAB, Rl.none⟩ : Fac)].flatMap facL).toArray 61 (0, 0))] ++ [Ent.blk b9 (.cells (txL exAB).toArray 9 (0, 0))]))))) := Hp.backZ (A := [_, _]) h125
    refine AQ 16 rfl (hH126.sub (sQ (sP (sA sR)))) (aV (B _) rfl) <| AQ 17 rfl (hH126.sub (sQ (sP (sA sR)))) (aV (B _) rfl) <| A1 18 <| AO.set rfl gnone hH126 (j := 0) rfl (sQ (sP (sA sR))) (run_stEl rfl rfl rfl (hH126.blk (i := 0) rfl)) <| fun w129 hH130 => ?_
    simp only [z2] at hH130
    refine AD <| SR <| mB rfl <| mB rfl <| gT rfl (bR (c := true) (exL1)) <| mB rfl <| gT rfl (bR (c := true) (exL1)) <| V (run_not (bR (c := false) (exL2))) <| V (run_pickT (bR (c := true) (exL1)) (v := B _) rfl) <| mB rfl <| gT rfl rfl <| V (run_ldEl underlying40 rfl rfl rfl (hH130.blk (i := 0) rfl)) <| gT rfl rfl <| V (run_bld (vs := [(0, U 3#64)]) rfl (built_el1 _)) <| gT rfl rfl <| V (run_eqlEl elT_fact rfl rfl) <| V (run_pickT rfl (v := B _) rfl) <| mB rfl <| gT rfl (bT (hJ17)) <| vm (v := Pn _ _) rfl <| gT rfl (bT (hJ17)) <| RL.callP rfl hH130 (m_Read (m := m3) (by simp) hZ124 hH130 (fun x hx => (mT (mT (List.mem_append_left _ hx))))) (run_call1 call15 rfl) <| fun w132 hH133 => gT rfl (bT (hJ17)) <| V (run_bld (vs := [(1, I _), (2, I _)]) rfl (built_cnt12 _ _)) <| gT rfl (bT (hJ17)) <| V (run_eqlT (cnt_same (by simp [Wr.tick, tick1, putM, Kd.up, ct0, cn0]) (by simp [Wr.tick, tick1, putM, Kd.up, ct0, cn0]) (by simp [Wr.tick, tick1, putM, Kd.up, ct0, cn0])) rfl rfl) <| V (run_pickT (bT (hJ17)) (v := B _) rfl) <| aB rfl <| RL.nil <| CW.ret <| outP1 Tryz.results7 (congrArg B ?_) hH133.below
    rfl
  ·refine AO.new rfl gnone rfl hH75 (sP (sA sR)) (f := fun b => .pointer (some ⟨b, 0, none⟩)) (run_alloc zero_el) <| fun b136 w134 hH135 => A1 9 <| ?_
   obtain ⟨fq139, cq140, hq141, hfq142, hcq143⟩ := call_l w [m3] _ hT exE2 exE1 (Wr.wrap m3 (Wr.base p21 tb22)) _ ((Wr.wrap m3 (Wr.base p21 tb22)).tick .l ct0) _ ([_, _] ++ (Z42 ++ (Zq25 ++ ([Ent.blk b14 (.cells ([(⟨2, .slice (some ⟨b9, 0, none⟩) 2 2, exAB, Rl.none⟩ : Fac)].flatMap facL).toArray 61 (0, 0))] ++ [Ent.blk b9 (.cells (txL exAB).toArray 9 (0, 0))])))) _ _ _ _ ((hw53.mono Le.kk).mono (Le.zz fun y hy => List.mem_append_right _ hy)) (show (Wr.wrap m3 (Wr.base p21 tb22)).inn _ _ from ⟨by simp, hi36⟩) hZ73 (OkC.zero.ticks (d := (Wr.wrap m3 (Wr.base p21 tb22))) _) (by simp only [Wr.dep]; omega) (Hp.frontZ (A := [_, _]) hH135)
   refine AO.callT rfl gnone rfl hcq143 (run_callC2 hfq142 (cs := cq140) hq141 rfl rfl) (fun u w' ⟨_, Z', _, h⟩ => Hp.sub (L := _ :: _ :: (Z' ++ (Z42 ++ (Zq25 ++ ([Ent.blk b14 (.cells ([(⟨2, .slice (some ⟨b9, 0, none⟩) 2 2, exAB, Rl.none⟩ : Fac)].flatMap facL).toArray 61 (0, 0))] ++ [Ent.blk b9 (.cells (txL exAB).toArray 9 (0, 0))]))))) (Hp.backZ (A := [_, _]) h) (sQ (sP (sA sR)))) ?_
   rintro _ w144 ⟨rfl, Z145, hZ146, h147⟩
   have hH148 : Hp _ w144 (_ :: _ :: (Z145 ++ (Z42 ++ (Zq25 ++ ([Ent.blk b14 (.cells ([(⟨2, .slice (some ⟨b9, 0, none⟩) 2 2, exAB, Rl.none⟩ : Fac)].flatMap facL).toArray 61 (0, 0))] ++ [Ent.blk b9 (.cells (txL exAB).toArray 9 (0, 0))]))))) := Hp.backZ (A := [_, _]) h147
   refine A1 14 ?_
   obtain ⟨fq152, cq153, hq154, hfq155, hcq156⟩ := call_j w [m3] _ hT exE1 exE2 (Wr.wrap m3 (Wr.base p21 tb22)) _ ((Wr.wrap m3 (Wr.base p21 tb22)).tick .l ((Wr.wrap m3 (Wr.base p21 tb22)).tick .l ct0)) _ ([_, _] ++ (Z42 ++ (Zq25 ++ ([Ent.blk b14 (.cells ([(⟨2, .slice (some ⟨b9, 0, none⟩) 2 2, exAB, Rl.none⟩ : Fac)].flatMap facL).toArray 61 (0, 0))] ++ [Ent.blk b9 (.cells (txL exAB).toArray 9 (0, 0))])))) _ _ _ _ ((hw53.mono Le.kk).mono (Le.zz fun y hy => List.mem_append_right _ hy)) (show (Wr.wrap m3 (Wr.base p21 tb22)).inn _ _ from ⟨by simp, hi36⟩) hZ146 ((OkC.zero.ticks (d := (Wr.wrap m3 (Wr.base p21 tb22))) _).ticks (d := (Wr.wrap m3 (Wr.base p21 tb22))) _) (by simp only [Wr.dep]; omega) (Hp.frontZ (A := [_, _]) hH148)
   refine AO.callT rfl gnone rfl hcq156 (run_callC2 hfq155 (cs := cq153) hq154 rfl rfl) (fun u w' ⟨_, Z', _, h⟩ => Hp.sub (L := _ :: _ :: (Z' ++ (Z42 ++ (Zq25 ++ ([Ent.blk b14 (.cells ([(⟨2, .slice (some ⟨b9, 0, none⟩) 2 2, exAB, Rl.none⟩ : Fac)].flatMap facL).toArray 61 (0, 0))] ++ [Ent.blk b9 (.cells (txL exAB).toArray 9 (0, 0))]))))) (Hp.backZ (A := [_, _]) h) (sQ (sP (sA sR)))) ?_
   rintro _ w157 ⟨rfl, Z158, hZ159, h160⟩
   have hH161 : Hp _ w157 (_ :: _ :: (Z158 ++ (Z42 ++ (Zq25 ++ ([Ent.blk b14 (.cells ([(⟨2, .slice (some ⟨b9, 0, none⟩) 2 2, exAB, Rl.none⟩ : Fac)].flatMap facL).toArray 61 (0, 0))] ++ [Ent.blk b9 (.cells (txL exAB).toArray 9 (0, 0))]))))) := Hp.backZ (A := [_, _]) h160
   refine AQ 16 rfl (hH161.sub (sQ (sP (sA sR)))) (aV (B _) rfl) <| AQ 17 rfl (hH161.sub (sQ (sP (sA sR)))) (aV (B _) rfl) <| A1 18 <| AO.set rfl gnone hH161 (j := 0) rfl (sQ (sP (sA sR))) (run_stEl rfl rfl rfl (hH161.blk (i := 0) rfl)) <| fun w164 hH165 => ?_
   simp only [z2] at hH165
   refine AD <| SR <| mB rfl <| mB rfl <| gT rfl (bR (c := true) (exL1)) <| mB rfl <| gT rfl (bR (c := true) (exL1)) <| V (run_not (bR (c := false) (exL2))) <| V (run_pickT (bR (c := true) (exL1)) (v := B _) rfl) <| mB rfl <| gT rfl rfl <| V (run_ldEl underlying40 rfl rfl rfl (hH165.blk (i := 0) rfl)) <| gT rfl rfl <| V (run_bld (vs := [(0, U 3#64)]) rfl (built_el1 _)) <| gT rfl rfl <| V (run_eqlEl elT_fact rfl rfl) <| V (run_pickT rfl (v := B _) rfl) <| mB rfl <| gT rfl (bT (hJ17)) <| vm (v := Pn _ _) rfl <| gT rfl (bT (hJ17)) <| RL.callP rfl hH165 (m_Read (m := m3) (by simp) hZ159 hH165 (fun x hx => (mT (mT (List.mem_append_left _ hx))))) (run_call1 call15 rfl) <| fun w167 hH168 => gT rfl (bT (hJ17)) <| V (run_bld (vs := [(1, I _), (2, I _)]) rfl (built_cnt12 _ _)) <| gT rfl (bT (hJ17)) <| V (run_eqlT (cnt_same (by simp [Wr.tick, tick1, putM, Kd.up, ct0, cn0]) (by simp [Wr.tick, tick1, putM, Kd.up, ct0, cn0]) (by simp [Wr.tick, tick1, putM, Kd.up, ct0, cn0])) rfl rfl) <| V (run_pickT (bT (hJ17)) (v := B _) rfl) <| aB rfl <| RL.nil <| CW.ret <| outP1 Tryz.results7 (congrArg B ?_) hH168.below
   rfl
 ·refine AO.new rfl gnone rfl hH63 (sP (sA sR)) (f := fun b => .pointer (some ⟨b, 0, none⟩)) (run_alloc zero_el) <| fun b171 w169 hH170 => A1 4 <| ?_
  obtain ⟨fq174, cq175, hq176, hfq177, hcq178⟩ := call_l w [m3] _ hT exE1 exE3 (Wr.wrap m3 (Wr.base p21 tb22)) _ ct0 _ ([_, _] ++ (Z42 ++ (Zq25 ++ ([Ent.blk b14 (.cells ([(⟨2, .slice (some ⟨b9, 0, none⟩) 2 2, exAB, Rl.none⟩ : Fac)].flatMap facL).toArray 61 (0, 0))] ++ [Ent.blk b9 (.cells (txL exAB).toArray 9 (0, 0))])))) _ _ _ _ ((hw53.mono Le.kk).mono (Le.zz fun y hy => List.mem_append_right _ hy)) (show (Wr.wrap m3 (Wr.base p21 tb22)).inn _ _ from ⟨by simp, hi36⟩) hZ33 OkC.zero (by simp only [Wr.dep]; omega) (Hp.frontZ (A := [_, _]) hH170)
  refine AO.callT rfl gnone rfl hcq178 (run_callC2 hfq177 (cs := cq175) hq176 rfl rfl) (fun u w' ⟨_, Z', _, h⟩ => Hp.sub (L := _ :: _ :: (Z' ++ (Z42 ++ (Zq25 ++ ([Ent.blk b14 (.cells ([(⟨2, .slice (some ⟨b9, 0, none⟩) 2 2, exAB, Rl.none⟩ : Fac)].flatMap facL).toArray 61 (0, 0))] ++ [Ent.blk b9 (.cells (txL exAB).toArray 9 (0, 0))]))))) (Hp.backZ (A := [_, _]) h) (sQ (sP (sA sR)))) ?_
  rintro _ w179 ⟨rfl, Z180, hZ181, h182⟩
  have hH183 : Hp _ w179 (_ :: _ :: (Z180 ++ (Z42 ++ (Zq25 ++ ([Ent.blk b14 (.cells ([(⟨2, .slice (some ⟨b9, 0, none⟩) 2 2, exAB, Rl.none⟩ : Fac)].flatMap facL).toArray 61 (0, 0))] ++ [Ent.blk b9 (.cells (txL exAB).toArray 9 (0, 0))]))))) := Hp.backZ (A := [_, _]) h182
  refine A1 9 ?_
  obtain ⟨fq187, cq188, hq189, hfq190, hcq191⟩ := call_l w [m3] _ hT exE2 exE1 (Wr.wrap m3 (Wr.base p21 tb22)) _ ((Wr.wrap m3 (Wr.base p21 tb22)).tick .l ct0) _ ([_, _] ++ (Z42 ++ (Zq25 ++ ([Ent.blk b14 (.cells ([(⟨2, .slice (some ⟨b9, 0, none⟩) 2 2, exAB, Rl.none⟩ : Fac)].flatMap facL).toArray 61 (0, 0))] ++ [Ent.blk b9 (.cells (txL exAB).toArray 9 (0, 0))])))) _ _ _ _ ((hw53.mono Le.kk).mono (Le.zz fun y hy => List.mem_append_right _ hy)) (show (Wr.wrap m3 (Wr.base p21 tb22)).inn _ _ from ⟨by simp, hi36⟩) hZ181 (OkC.zero.ticks (d := (Wr.wrap m3 (Wr.base p21 tb22))) _) (by simp only [Wr.dep]; omega) (Hp.frontZ (A := [_, _]) hH183)
  refine AO.callT rfl gnone rfl hcq191 (run_callC2 hfq190 (cs := cq188) hq189 rfl rfl) (fun u w' ⟨_, Z', _, h⟩ => Hp.sub (L := _ :: _ :: (Z' ++ (Z42 ++ (Zq25 ++ ([Ent.blk b14 (.cells ([(⟨2, .slice (some ⟨b9, 0, none⟩) 2 2, exAB, Rl.none⟩ : Fac)].flatMap facL).toArray 61 (0, 0))] ++ [Ent.blk b9 (.cells (txL exAB).toArray 9 (0, 0))]))))) (Hp.backZ (A := [_, _]) h) (sQ (sP (sA sR)))) ?_
  rintro _ w192 ⟨rfl, Z193, hZ194, h195⟩
  have hH196 : Hp _ w192 (_ :: _ :: (Z193 ++ (Z42 ++ (Zq25 ++ ([Ent.blk b14 (.cells ([(⟨2, .slice (some ⟨b9, 0, none⟩) 2 2, exAB, Rl.none⟩ : Fac)].flatMap facL).toArray 61 (0, 0))] ++ [Ent.blk b9 (.cells (txL exAB).toArray 9 (0, 0))]))))) := Hp.backZ (A := [_, _]) h195
  refine A1 14 ?_
  obtain ⟨fq200, cq201, hq202, hfq203, hcq204⟩ := call_j w [m3] _ hT exE1 exE2 (Wr.wrap m3 (Wr.base p21 tb22)) _ ((Wr.wrap m3 (Wr.base p21 tb22)).tick .l ((Wr.wrap m3 (Wr.base p21 tb22)).tick .l ct0)) _ ([_, _] ++ (Z42 ++ (Zq25 ++ ([Ent.blk b14 (.cells ([(⟨2, .slice (some ⟨b9, 0, none⟩) 2 2, exAB, Rl.none⟩ : Fac)].flatMap facL).toArray 61 (0, 0))] ++ [Ent.blk b9 (.cells (txL exAB).toArray 9 (0, 0))])))) _ _ _ _ ((hw53.mono Le.kk).mono (Le.zz fun y hy => List.mem_append_right _ hy)) (show (Wr.wrap m3 (Wr.base p21 tb22)).inn _ _ from ⟨by simp, hi36⟩) hZ194 ((OkC.zero.ticks (d := (Wr.wrap m3 (Wr.base p21 tb22))) _).ticks (d := (Wr.wrap m3 (Wr.base p21 tb22))) _) (by simp only [Wr.dep]; omega) (Hp.frontZ (A := [_, _]) hH196)
  refine AO.callT rfl gnone rfl hcq204 (run_callC2 hfq203 (cs := cq201) hq202 rfl rfl) (fun u w' ⟨_, Z', _, h⟩ => Hp.sub (L := _ :: _ :: (Z' ++ (Z42 ++ (Zq25 ++ ([Ent.blk b14 (.cells ([(⟨2, .slice (some ⟨b9, 0, none⟩) 2 2, exAB, Rl.none⟩ : Fac)].flatMap facL).toArray 61 (0, 0))] ++ [Ent.blk b9 (.cells (txL exAB).toArray 9 (0, 0))]))))) (Hp.backZ (A := [_, _]) h) (sQ (sP (sA sR)))) ?_
  rintro _ w205 ⟨rfl, Z206, hZ207, h208⟩
  have hH209 : Hp _ w205 (_ :: _ :: (Z206 ++ (Z42 ++ (Zq25 ++ ([Ent.blk b14 (.cells ([(⟨2, .slice (some ⟨b9, 0, none⟩) 2 2, exAB, Rl.none⟩ : Fac)].flatMap facL).toArray 61 (0, 0))] ++ [Ent.blk b9 (.cells (txL exAB).toArray 9 (0, 0))]))))) := Hp.backZ (A := [_, _]) h208
  refine AQ 16 rfl (hH209.sub (sQ (sP (sA sR)))) (aV (B _) rfl) <| AQ 17 rfl (hH209.sub (sQ (sP (sA sR)))) (aV (B _) rfl) <| A1 18 <| AO.set rfl gnone hH209 (j := 0) rfl (sQ (sP (sA sR))) (run_stEl rfl rfl rfl (hH209.blk (i := 0) rfl)) <| fun w212 hH213 => ?_
  simp only [z2] at hH213
  refine AD <| SR <| mB rfl <| mB rfl <| gT rfl (bR (c := true) (exL1)) <| mB rfl <| gT rfl (bR (c := true) (exL1)) <| V (run_not (bR (c := false) (exL2))) <| V (run_pickT (bR (c := true) (exL1)) (v := B _) rfl) <| mB rfl <| gT rfl rfl <| V (run_ldEl underlying40 rfl rfl rfl (hH213.blk (i := 0) rfl)) <| gT rfl rfl <| V (run_bld (vs := [(0, U 3#64)]) rfl (built_el1 _)) <| gT rfl rfl <| V (run_eqlEl elT_fact rfl rfl) <| V (run_pickT rfl (v := B _) rfl) <| mB rfl <| gT rfl (bT (hJ17)) <| vm (v := Pn _ _) rfl <| gT rfl (bT (hJ17)) <| RL.callP rfl hH213 (m_Read (m := m3) (by simp) hZ207 hH213 (fun x hx => (mT (mT (List.mem_append_left _ hx))))) (run_call1 call15 rfl) <| fun w215 hH216 => gT rfl (bT (hJ17)) <| V (run_bld (vs := [(1, I _), (2, I _)]) rfl (built_cnt12 _ _)) <| gT rfl (bT (hJ17)) <| V (run_eqlT (cnt_same (by simp [Wr.tick, tick1, putM, Kd.up, ct0, cn0]) (by simp [Wr.tick, tick1, putM, Kd.up, ct0, cn0]) (by simp [Wr.tick, tick1, putM, Kd.up, ct0, cn0])) rfl rfl) <| V (run_pickT (bT (hJ17)) (v := B _) rfl) <| aB rfl <| RL.nil <| CW.ret <| outP1 Tryz.results7 (congrArg B ?_) hH216.below
  rfl
theorem c_clearancelaw17_TallyCounts (s : Shp) (v : Value) (l : List CalR) (c : Int) (hc : 0 ≤ c ∧ c ≤ 255) (w : World) (hsh : ShpV (Kw w) s) (hs : Sl w v 19 l.length (l.flatMap calL)) (hv : CalsV (Kw w) l) (hT : Tab w) : Calls Tryz.prog 4 #[.agg (shpC s), v, .int .u8 c] w (Pure (B true) w) := by
 have hm := hs.small
 unfold maxLen at hm
 refine enter Tryz.func4 rfl Tryz.ntmps4 rfl <| have hH := Hp.start w; SR <| RL.new rfl hH (f := fun b => (.pointer (some ⟨b, 0, none⟩))) (run_box (v := .agg _) rfl) <| fun b3 w1 hH2 => va (v := B false) rfl <| RL.nil <| CW.seq <| SR <| V (run_ldA (cs := [B _, _]) underlying24 rfl rfl rfl (rangeAt_cells (hH2.blk (i := 0) rfl))) <| RL.callP rfl hH2 (c_clearancelaw07_Big _  _ (hsh.mono hH2.kw)) (run_call1 call5 rfl) <| fun w4 hH5 => mB rfl <| RL.split (dj := 15) rfl (fun h7 => ?_) (fun h7 => ?_)
 ·refine gF rfl (bR (c := true) h7) <| gF rfl (bR (c := true) h7) <| V (run_pickT (bR (c := true) h7) (v := B true) rfl) <| RL.nil <| CW.condT rfl <| SR <| RL.callP rfl hH5 (c_clearancelaw17_alive   _ (hT.hp hH5)) (run_call0 call7) <| fun w8 hH9 => aB rfl <| RL.nil <| CW.ret <| outP1 Tryz.results4 (congrArg B ?_) hH9.below
  rfl
 ·refine gT rfl (bR (c := false) h7) ?_
  refine V (run_move (by conv => lhs; whnf)) ?_
  refine gT rfl (bR (c := false) h7) <| RL.callP rfl hH5 (c_clearancelaw17_big _ _ _ (hs.hp hH5) (hv.mono hH5.kw)) (run_call1 call6 rfl) <| fun w11 hH12 => V (run_pickF (bR (c := false) h7) (v := B _) rfl) <| RL.nil <| CW.cond rfl (fun h14 => ?_) (fun h14 => ?_)
  ·refine SR <| RL.callP rfl hH12 (c_clearancelaw17_alive   _ (hT.hp hH12)) (run_call0 call7) <| fun w15 hH16 => aB rfl <| RL.nil <| CW.ret <| outP1 Tryz.results4 (congrArg B ?_) hH16.below
   rfl
  ·refine CW.skip <| SR <| RL.callT rfl (c_tally_New _) (run_call0 call12) <| ?_
   rintro _ w21 ⟨m20, rfl, h22⟩
   have hH23 : Hp _ w21 (blkM TX m20 cn0 :: _ :: []) := hH12.callZ h22
   refine va (v := Pn _ _) rfl <| RL.nil <| SR <| vm (v := Pn _ _) rfl <| V (run_ldA (cs := [B _, _]) underlying24 rfl rfl rfl (rangeAt_cells (hH23.blk (i := 1) rfl))) <| RL.callT rfl (c_tally_Of (Kz (Kw w) []) _ (by have := (big_shp ‹bigS s.sh = false›).1; omega) (fun f hf => by have := (big_shp ‹bigS s.sh = false›).2 f hf; omega) _ (hH23.kz (Le.refl _) (fun x hx => by cases hx)) (hsh.mono (Le.z _ _))) (run_call1 call8 rfl) <| ?_
   rintro _ w26 ⟨f1, f2, f3, a1, a2, a3, p27, tb28, tl29, Zt30, Zq31, rfl, hd32, hp33, hto34, htl35, hzt36, h37⟩
   have h37a : Hp _ w26 ((Zt30 ++ Zq31) ++ ([_] ++ ([_] ++ []))) := Hp.callZ (Hp.app0 (A := [_]) (Zf := [_]) (hH23.perm (((pC pR).trans pS).trans (pC pR)))) h37
   obtain ⟨Zf38, hZ39, hH40⟩ : ∃ Zf, TalZ TX [m20] ct0 ([] ++ tl29) Zf ∧ Hp _ w26 (_ :: (Zf ++ (Zq31 ++ []))) := ⟨_, TalZ.app (⟨[], rfl, rfl⟩ : TalZ TX [m20] ct0 [] _) hzt36, Hp.putZ2 (A := [_]) h37a⟩
   have hO41 := hd32.mono Le.kk
   have hi42 : (Wr.base p27 tb28).inn [m20] ([] ++ tl29) := ⟨hto34, fun i hi q hq => htl35 i hi q hq⟩
   refine RL.callF rfl hH40 (c_tally_Meter_Wrap (Kz (Kw w) (Zq31 ++ [])) m20 _ _ _ _ _ (hH40.kz (Le.refl _) (fun x hx => (mT (List.mem_append_right _ hx)))) hO41) (run_call2 call13 rfl rfl) <| fun v45 w46 Z48 hH47 hp49 => have hH50 : Hp _ w46 (_ :: (Z48 ++ (Zf38 ++ (Zq31 ++ [])))) := hH47.zin (L := [_]) (L' := (Zf38 ++ (Zq31 ++ []))); have hH52 : Hp _ w46 (_ :: (Zf38 ++ (Z48 ++ (Zq31 ++ [])))) := Hp.swz (A := [_]) hH50; ?_
   obtain ⟨q153, q254, q355, q456, q557, q658, rfl, hw59⟩ := hp49
   refine RL.new rfl hH52 (f := fun b => (.pointer (some ⟨b, 0, none⟩))) (run_alloc zero_ops) <| fun b62 w60 hH61 => RL.set hH61 (i := 0) rfl (run_stW rfl rfl rfl (by simp [Value.oneCell', pt, fnV]) (hH61.blk (i := 0) rfl) rfl) <| fun w63 hH64 => ?_
   simp only [z2] at hH64
   refine RL.nil <| CW.seq <| SR <| V (run_ldA (cs := [_, _, _]) underlying33 rfl rfl rfl (rangeAt_cells (hH64.blk (i := 0) rfl))) <| RL.callP rfl hH64 (c_clearancelaw17_whole _ _ _ _ _ _ (hw59.mono Le.kk)) (run_call1 call9 rfl) <| fun w65 hH66 => V (run_not rfl) <| RL.nil <| CW.condF rfl <| CW.skip <| SR <| va (v := I 0) rfl <| RL.nil <| CW.seq <| SR <| ?_
   refine V (run_move (by conv => lhs; whnf)) ?_
   refine V (run_lenSl (hs.hp hH66) rfl underlying25 rfl) <| vm (v := I 0) rfl <| RL.nil <| CW.block <| have hl60 := (bigCal_no ‹bigCal l = false›).1; CW.loop (G := Int × Int × Ct × (List Ent)) (fun ⟨k, fr, f, Z1⟩ s' w' => (Fr (6 :: (rg 9 4 (rg 30 35 []))) _ s') ∧ (Hp w w' (_ :: _ :: Z1)) ∧ (s' 9 = I fr) ∧ (s' 30 = I k) ∧ (0 ≤ k) ∧ (k ≤ l.length) ∧ (0 ≤ fr ∧ fr ≤ k) ∧ (∃ Zf, Z1 = Zf ++ (Z48 ++ (Zq31 ++ [])) ∧ TalZ TX [m20] f ([] ++ tl29) Zf) ∧ (OkC k.toNat f) ∧ (CntOk (f m20) ((l.take k.toNat).drop fr.toNat))) (fun ⟨k, fr, f, Z1⟩ => (l.length - k).toNat) ((0, 0, ct0, (Zf38 ++ (Z48 ++ (Zq31 ++ []))))) ⟨Fr.refl _ _, hH66, rfl, rfl, (by omega), (by omega), ⟨by omega, by omega⟩, ⟨_, rfl, hZ39⟩, OkC.zero, CntOk.nil⟩ <| ?_
   rintro ⟨k, fr, f, Z1⟩ sg68 w68 ⟨fr68, hH68, e9_68, e30_68, h0, hk, hfr, hS, hfo, hC⟩
   have e1_68 := (fr68 1 rfl).trans (by conv => lhs; whnf)
   have e2_68 := fr68.vv 2 (a := .int _ _) rfl rfl
   have e3_68 := fr68.pp 3 rfl rfl
   have e7_68 := fr68.pp 7 rfl rfl
   have e8_68 := fr68.pp 8 rfl rfl
   have e28_68 := (fr68 28 rfl).trans (by conv => lhs; whnf)
   have e29_68 := fr68.ii 29 rfl rfl
   obtain ⟨Zf, rfl, hZf⟩ := hS
   refine SR <| V (run_lss e30_68 e29_68) <| RL.nil <| CW.seq <| CW.condP rfl (fun h70 => ?_) (fun h70 => ?_)
   ·refine CW.skip <| CW.seq <| CW.block <| SR <| vm e30_68 <| V (run_indexAddrS (hs.hp hH68) underlying25 sizeOf42 e28_68 e30_68 (by omega)) <| V (run_ldE (dv := cal0) calL_len (hs.hp hH68) underlying42 rfl rfl rfl (by omega)) <| RL.new rfl hH68 (f := fun b => (.pointer (some ⟨b, 0, none⟩))) (run_alloc zero_cal) <| fun b73 w71 hH72 => aI rfl <| RL.set hH72 (i := 0) rfl (run_stW (c' := (calL _).toArray) rfl rfl rfl (calL_one (hv.at (by omega) (by omega))) (hH72.blk (i := 0) rfl) rfl) <| fun w74 hH75 => ?_
    simp only [z2] at hH75
    refine RL.nil <| CW.seq <| SR <| mI rfl <| vm e2_68 <| V (run_convUI underlying5 underlying3 rfl (by omega)) <| V (run_eql rfl rfl) <| RL.nil <| CW.condP rfl (fun h77 => ?_) (fun h77 => ?_)
    ·refine SR <| vm e7_68 <| RL.callT rfl (m_Clear (m := m20) (by simp) hZf (A := [_, _, _]) hH75) (run_call1 call14 rfl) <| ?_
     rintro _ w80 ⟨rfl, Z81, hZ82, h83⟩
     have hH84 : Hp _ w80 (_ :: _ :: _ :: (Z81 ++ (Z48 ++ (Zq31 ++ [])))) := h83
     refine RL.nil <| CW.region <| mI rfl <| aI rfl <| RL.nil <| CW.seq <| CW.seq <| CW.regionS (by kernel_rfl) hH84 (sP (sP (sP (sA sR)))) <| fun w85 hH86 => have zh86 := hH86.sub (sP (sP (sP (sA sR)))); AT 0 rfl zh86 (fun w hS => run_ldA (cs := [_, _, _]) underlying33 rfl rfl e8_68 (rangeAt_cells (hS.blk (i := 1) rfl))) <| AT 1 rfl zh86 (fun w hS => run_ldA (cs := calL _) underlying42 rfl rfl rfl (rangeAt_cells (hS.blk (i := 0) rfl))) <| AT 3 rfl zh86 (fun w hS => run_ldA (cs := [B _, _]) underlying24 rfl rfl e3_68 (rangeAt_cells (hS.blk (i := 2) rfl))) <| AT 4 rfl zh86 (fun w hS => run_ldA (cs := calL _) underlying42 rfl rfl rfl (rangeAt_cells (hS.blk (i := 0) rfl))) <| A1 2 <| AO.callT rfl gnone rfl (m_do hT (cal_sm ‹bigCal l = false› h0 ‹k < _›) ((show (Wr.wrap m20 (Wr.base p27 tb28)).inn _ _ from ⟨by simp, hi42⟩)) hp33 (hfo.clear m20) (by simp only [Wr.dep]; omega) (hw59.mono Le.kk) ((hv.at (by omega) (by omega)).mono (Le.z _ _)) hZ82 (A := [_, _, _]) hH86) (run_call2 call10 rfl rfl) (fun u w' ⟨_, Z', _, h⟩ => Hp.sub (L := _ :: _ :: _ :: (Z' ++ (Z48 ++ (Zq31 ++ [])))) h (sP (sP (sP (sA sR))))) <| ?_
     rintro _ w89 ⟨rfl, Z90, hZ91, h92⟩
     have hH93 : Hp _ w89 (_ :: _ :: _ :: (Z90 ++ (Z48 ++ (Zq31 ++ [])))) := h92
     refine A1 5 <| AO.callP rfl gnone rfl hH93 (sP (sP (sP (sA sR)))) (c_clearanceref17_Do _ _ (by exact cal_sm (by assumption) h0 (by assumption)) _ (hsh.mono hH93.kw) ((hv.at (by omega) (by omega)).mono hH93.kw)) (run_call2 call11 rfl rfl) <| fun w94 hH95 => AQ 6 rfl (hH95.sub (sP (sP (sP (sA sR))))) (run_neqT (got_same _) rfl rfl) <| AD <| CW.condF rfl <| CW.skip <| SR <| vm e1_68 <| mI rfl <| mI rfl <| V (run_add rfl rfl (by omega)) <| have hC2 := CntOk.next (CntOk.cleared (f := f) (m := m20) (l := l) (k := k)) (show 0 ≤ k by omega) (show k ≤ k by omega) ‹k < _›; V (run_part (hs.hp hH95) underlying25 sizeOf42 rfl rfl rfl (by omega)) <| ?_
     refine V (run_assign (by conv => lhs; whnf)) ?_
     refine RL.nil <| SR <| vm e7_68 <| RL.callP rfl hH95 (m_Read (m := m20) (by simp) hZ91 hH95 (fun x hx => (mT (mT (mT (List.mem_append_left _ hx)))))) (run_call1 call15 rfl) <| fun w96 hH97 => ?_
     refine V (run_move (by conv => lhs; whnf)) ?_
     refine RL.callP rfl hH97 (c_clearanceref17_Count _ ((l.take (k + 1).toNat).drop (k).toNat) 0 _ ((Sl.partE calL_len hs (by omega) (by omega)).hp hH97)) (run_call2 call16 rfl (show _ = I 0 from rfl)) <| fun w98 hH99 => ?_
     refine V (run_move (by conv => lhs; whnf)) ?_
     refine RL.callP rfl hH99 (c_clearanceref17_Count _ ((l.take (k + 1).toNat).drop (k).toNat) 1 _ ((Sl.partE calL_len hs (by omega) (by omega)).hp hH99)) (run_call2 call16 rfl (show _ = I 1 from rfl)) <| fun w100 hH101 => ?_
     refine V (run_move (by conv => lhs; whnf)) ?_
     refine RL.callP rfl hH101 (c_clearanceref17_Count _ ((l.take (k + 1).toNat).drop (k).toNat) 2 _ ((Sl.partE calL_len hs (by omega) (by omega)).hp hH101)) (run_call2 call16 rfl (show _ = I 2 from rfl)) <| fun w102 hH103 => V (run_bld (vs := [(0, I _), (1, I _), (2, I _)]) rfl (built_cnt _ _ _)) <| V (run_neqT (cnt_same hC2.1 hC2.2.1 hC2.2.2) rfl rfl) <| RL.nil <| CW.condF rfl <| CW.skip <| CW.region <| V (run_add e30_68 rfl (by omega)) <| mI rfl <| RL.nil <| ?_
     refine ⟨(k + 1, k, ((Wr.wrap m20 (Wr.base p27 tb28)).tick (kdOf (l.getD k.toNat cal0)) (putM f m20 cn0)), (Z90 ++ (Z48 ++ (Zq31 ++ [])))), ?_, fr68.u4.u4.u4.u4.u4.u4.u4.u4.u4.u1.u1.u1, (hH103.sub (sQ sR)), (congrArg I (by rfl)), (congrArg I (by rfl)), ?_, ?_, ?_, ?_, ?_, ?_⟩
     ·((try dsimp only); omega)
     ·omega
     ·omega
     ·exact ⟨by omega, by omega⟩
     ·exact ⟨_, rfl, hZ91⟩
     ·exact ((hfo.clear m20).ticks (d := (Wr.wrap m20 (Wr.base p27 tb28))) _).mono (by simp only [Wr.dep]; omega)
     ·exact hC2
    ·refine CW.skip <| CW.seq <| CW.seq <| CW.regionS (by kernel_rfl) hH75 (sP (sP (sP (sA sR)))) <| fun w104 hH105 => have zh105 := hH105.sub (sP (sP (sP (sA sR)))); AT 0 rfl zh105 (fun w hS => run_ldA (cs := [_, _, _]) underlying33 rfl rfl e8_68 (rangeAt_cells (hS.blk (i := 1) rfl))) <| AT 1 rfl zh105 (fun w hS => run_ldA (cs := calL _) underlying42 rfl rfl rfl (rangeAt_cells (hS.blk (i := 0) rfl))) <| AT 3 rfl zh105 (fun w hS => run_ldA (cs := [B _, _]) underlying24 rfl rfl e3_68 (rangeAt_cells (hS.blk (i := 2) rfl))) <| AT 4 rfl zh105 (fun w hS => run_ldA (cs := calL _) underlying42 rfl rfl rfl (rangeAt_cells (hS.blk (i := 0) rfl))) <| A1 2 <| AO.callT rfl gnone rfl (m_do hT (cal_sm ‹bigCal l = false› h0 ‹k < _›) ((show (Wr.wrap m20 (Wr.base p27 tb28)).inn _ _ from ⟨by simp, hi42⟩)) hp33 hfo (by simp only [Wr.dep]; omega) (hw59.mono Le.kk) ((hv.at (by omega) (by omega)).mono (Le.z _ _)) hZf (A := [_, _, _]) hH105) (run_call2 call10 rfl rfl) (fun u w' ⟨_, Z', _, h⟩ => Hp.sub (L := _ :: _ :: _ :: (Z' ++ (Z48 ++ (Zq31 ++ [])))) h (sP (sP (sP (sA sR))))) <| ?_
     rintro _ w108 ⟨rfl, Z109, hZ110, h111⟩
     have hH112 : Hp _ w108 (_ :: _ :: _ :: (Z109 ++ (Z48 ++ (Zq31 ++ [])))) := h111
     refine A1 5 <| AO.callP rfl gnone rfl hH112 (sP (sP (sP (sA sR)))) (c_clearanceref17_Do _ _ (by exact cal_sm (by assumption) h0 (by assumption)) _ (hsh.mono hH112.kw) ((hv.at (by omega) (by omega)).mono hH112.kw)) (run_call2 call11 rfl rfl) <| fun w113 hH114 => AQ 6 rfl (hH114.sub (sP (sP (sP (sA sR))))) (run_neqT (got_same _) rfl rfl) <| AD <| CW.condF rfl <| CW.skip <| SR <| vm e1_68 <| vm e9_68 <| mI rfl <| V (run_add rfl rfl (by omega)) <| have hC2 := CntOk.next hC (show 0 ≤ fr by omega) (show fr ≤ k by omega) ‹k < _›; V (run_part (hs.hp hH114) underlying25 sizeOf42 rfl rfl rfl (by omega)) <| ?_
     refine V (run_assign (by conv => lhs; whnf)) ?_
     refine RL.nil <| SR <| vm e7_68 <| RL.callP rfl hH114 (m_Read (m := m20) (by simp) hZ110 hH114 (fun x hx => (mT (mT (mT (List.mem_append_left _ hx)))))) (run_call1 call15 rfl) <| fun w115 hH116 => ?_
     refine V (run_move (by conv => lhs; whnf)) ?_
     refine RL.callP rfl hH116 (c_clearanceref17_Count _ ((l.take (k + 1).toNat).drop (fr).toNat) 0 _ ((Sl.partE calL_len hs (by omega) (by omega)).hp hH116)) (run_call2 call16 rfl (show _ = I 0 from rfl)) <| fun w117 hH118 => ?_
     refine V (run_move (by conv => lhs; whnf)) ?_
     refine RL.callP rfl hH118 (c_clearanceref17_Count _ ((l.take (k + 1).toNat).drop (fr).toNat) 1 _ ((Sl.partE calL_len hs (by omega) (by omega)).hp hH118)) (run_call2 call16 rfl (show _ = I 1 from rfl)) <| fun w119 hH120 => ?_
     refine V (run_move (by conv => lhs; whnf)) ?_
     refine RL.callP rfl hH120 (c_clearanceref17_Count _ ((l.take (k + 1).toNat).drop (fr).toNat) 2 _ ((Sl.partE calL_len hs (by omega) (by omega)).hp hH120)) (run_call2 call16 rfl (show _ = I 2 from rfl)) <| fun w121 hH122 => V (run_bld (vs := [(0, I _), (1, I _), (2, I _)]) rfl (built_cnt _ _ _)) <| V (run_neqT (cnt_same hC2.1 hC2.2.1 hC2.2.2) rfl rfl) <| RL.nil <| CW.condF rfl <| CW.skip <| CW.region <| V (run_add e30_68 rfl (by omega)) <| mI rfl <| RL.nil <| ?_
     refine ⟨(k + 1, fr, ((Wr.wrap m20 (Wr.base p27 tb28)).tick (kdOf (l.getD k.toNat cal0)) f), (Z109 ++ (Z48 ++ (Zq31 ++ [])))), ?_, fr68.u4.u4.u4.u4.u4.u4.u4.u4.u1.u1.u1, (hH122.sub (sQ sR)), e9_68, (congrArg I (by rfl)), ?_, ?_, ?_, ?_, ?_, ?_⟩
     ·((try dsimp only); omega)
     ·omega
     ·omega
     ·exact ⟨by omega, by omega⟩
     ·exact ⟨_, rfl, hZ110⟩
     ·exact (hfo.ticks (d := (Wr.wrap m20 (Wr.base p27 tb28))) _).mono (by simp only [Wr.dep]; omega)
     ·exact hC2
   ·refine CW.exit (id := 0) rfl <| SR <| RL.callP rfl hH68 (c_clearancelaw17_alive   _ (hT.hp hH68)) (run_call0 call7) <| fun w123 hH124 => aB rfl <| RL.nil <| CW.ret <| outP1 Tryz.results4 (congrArg B ?_) hH124.below
    rfl
end Go.Proofs.YtdfbimlpondblaaGreatDoor.W
