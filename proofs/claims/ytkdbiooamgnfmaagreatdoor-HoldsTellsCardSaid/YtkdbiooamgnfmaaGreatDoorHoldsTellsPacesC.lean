/-
  The walks of the functions that the laws of this seat reach, part 3: each returns what its plain counterpart tells, and turns nothing that was there.
-/
import Derived.Test.YtkdbiooamgnfmaaGreatDoorProg
import Derived.Test.YtkdbiooamgnfmaaGreatDoorEnv
import Derived.Test.YtkdbiooamgnfmaaGreatDoorPlain
import Derived.Test.YtkdbiooamgnfmaaGreatDoorBase
import Derived.Test.YtkdbiooamgnfmaaGreatDoorOrd
import Derived.Test.YtkdbiooamgnfmaaGreatDoorRel
import Derived.Test.YtkdbiooamgnfmaaGreatDoorClo
import Derived.Test.YtkdbiooamgnfmaaGreatDoorCov
import Derived.Test.YtkdbiooamgnfmaaGreatDoorArr
import Derived.Test.YtkdbiooamgnfmaaGreatDoorHas
import Derived.Test.YtkdbiooamgnfmaaGreatDoorGrd
import Derived.Test.YtkdbiooamgnfmaaGreatDoorStr
import Derived.Test.YtkdbiooamgnfmaaGreatDoorVu
import Derived.Test.YtkdbiooamgnfmaaGreatDoorShp
import Derived.Test.YtkdbiooamgnfmaaGreatDoorShl
import Derived.Test.YtkdbiooamgnfmaaGreatDoorShq
import Derived.Test.YtkdbiooamgnfmaaGreatDoorCut
import Derived.Test.YtkdbiooamgnfmaaGreatDoorRec
import Derived.Test.YtkdbiooamgnfmaaGreatDoorScp
import Derived.Test.YtkdbiooamgnfmaaGreatDoorNod
import Derived.Test.YtkdbiooamgnfmaaGreatDoorSpn
import Derived.Test.YtkdbiooamgnfmaaGreatDoorSpy
import Derived.Test.YtkdbiooamgnfmaaGreatDoorMk
import Derived.Test.YtkdbiooamgnfmaaGreatDoorAsn
import Derived.Test.YtkdbiooamgnfmaaGreatDoorAsr
import Derived.Test.YtkdbiooamgnfmaaGreatDoorAst
import Derived.Test.YtkdbiooamgnfmaaGreatDoorAsw
import Derived.Test.YtkdbiooamgnfmaaGreatDoorRgs
import Derived.Test.YtkdbiooamgnfmaaGreatDoorIns
import Derived.Test.YtkdbiooamgnfmaaGreatDoorCod
import Derived.Test.YtkdbiooamgnfmaaGreatDoorFit
import Derived.Test.YtkdbiooamgnfmaaGreatDoorRow
import Derived.Test.YtkdbiooamgnfmaaGreatDoorHol
import Derived.Test.YtkdbiooamgnfmaaGreatDoorGap
import Derived.Test.YtkdbiooamgnfmaaGreatDoorMap
import Derived.Test.YtkdbiooamgnfmaaGreatDoorExn
import Derived.Test.YtkdbiooamgnfmaaGreatDoorMin
import Derived.Test.YtkdbiooamgnfmaaGreatDoorHoldsTellsPacesB
namespace Go.Proofs.YtkdbiooamgnfmaaGreatDoor.W
open Go Go.RowKit Go.Proofs.YtkdbiooamgnfmaaGreatDoor.E Go.Proofs.YtkdbiooamgnfmaaGreatDoor.M
set_option linter.unusedVariables false
set_option linter.unusedSimpArgs false
set_option maxRecDepth 100000
open Tryz
theorem c_clearancelaw13_Big (s : Scp) (w : World) (hs : ScpV (Kw w) s) : Calls Tryz.prog 18 #[.agg (scpC s)] w (Pure (B (bigScp s)) w) := by
 have hm1 := hs.lats.sl.small
 have hm2 := hs.vars.sl.small
 unfold maxLen at hm1 hm2
 refine enter Tryz.func18 rfl Tryz.ntmps18 rfl <| have hH := Hp.start w; SR <| RL.new rfl hH (f := fun b => (.pointer (some ⟨b, 0, none⟩))) (run_box (v := .agg _) rfl) <| fun b3 w1 hH2 => va (v := B false) rfl <| RL.nil <| CW.seq <| SR <| V (fA underlying25 0 rfl sizeOf22 rfl) <| V (run_ldV (hs.lats.sl.hp hH2) underlying22 rfl rfl (hH2.cell (i := 0) rfl rfl)) <| V (run_lenSl (hs.lats.sl.hp hH2) rfl underlying22 rfl) <| V (run_gtr rfl rfl) <| mB rfl <| RL.splitP (dj := 11) rfl (fun h5 => ?_) (fun h5 => ?_)
 ·refine gF rfl (bT h5) <| gF rfl (bT h5) <| gF rfl (bT h5) <| gF rfl (bT h5) <| V (run_pickT (bT h5) (v := B true) rfl) <| RL.nil <| CW.condT rfl <| SR <| va (v := B true) rfl <| RL.nil <| CW.ret <| outP1 Tryz.results18 (congrArg B ?_) hH2.below
  (rw [bigScp, decide_eq_true (by omega)]; rfl)
 ·refine gT rfl (bF h5) <| V (fA underlying25 1 rfl sizeOf23 rfl) <| gT rfl (bF h5) <| V (run_ldV (hs.vars.sl.hp hH2) underlying23 rfl rfl (hH2.cell (i := 0) rfl rfl)) <| gT rfl (bF h5) <| V (run_lenSl (hs.vars.sl.hp hH2) rfl underlying23 rfl) <| gT rfl (bF h5) <| V (run_gtr rfl rfl) <| V (run_pickF (bF h5) (v := B _) rfl) <| RL.nil <| CW.condP rfl (fun h7 => ?_) (fun h7 => ?_)
  ·refine SR <| va (v := B true) rfl <| RL.nil <| CW.ret <| outP1 Tryz.results18 (congrArg B ?_) hH2.below
   (rw [bigScp, decide_eq_true (by omega)]; rfl)
  ·refine CW.skip <| CW.seq <| SR <| V (fA underlying25 0 rfl sizeOf22 rfl) <| V (run_ldV (hs.lats.sl.hp hH2) underlying22 rfl rfl (hH2.cell (i := 0) rfl rfl)) <| V (run_lenSl (hs.lats.sl.hp hH2) rfl underlying22 rfl) <| vm (v := I 0) rfl <| RL.nil <| CW.block <| have hno : ¬ (20 < s.lats.length ∨ 80 < s.vars.length) := (by omega); CW.loop (G := Int) (fun k s' w' => (Fr (2 :: (4 :: (rg 20 14 []))) _ s') ∧ (Hp w w' _) ∧ (s' 20 = I k) ∧ (0 ≤ k) ∧ (k ≤ s.lats.length) ∧ (∀ j : Int, 0 ≤ j → j < k → bigL (s.lats.getD j.toNat lat0) = false)) (fun k => (s.lats.length - k).toNat) (0) ⟨Fr.refl _ _, hH2, rfl, (by omega), (by omega), fun j a b => absurd b (by omega)⟩ <| ?_
   rintro k sg8 w8 ⟨fr8, hH8, e20_8, h0, hk, hg⟩
   have e1_8 := fr8.pp 1 rfl rfl
   have e18_8 := (fr8 18 rfl).trans (by conv => lhs; whnf)
   have e19_8 := fr8.ii 19 rfl rfl
   refine SR <| V (run_lss e20_8 e19_8) <| RL.nil <| CW.seq <| CW.condP rfl (fun h10 => ?_) (fun h10 => ?_)
   ·refine CW.skip <| CW.seq <| CW.block <| SR <| V (run_indexAddrS (hs.lats.sl.hp hH8) underlying22 sizeOf67 e18_8 e20_8 (by omega)) <| V (run_ldE (dv := lat0) latL_len (hs.lats.sl.hp hH8) underlying67 rfl rfl rfl (by omega)) <| RL.new rfl hH8 (f := fun b => (.pointer (some ⟨b, 0, none⟩))) (run_alloc zero_lat) <| fun b13 w11 hH12 => RL.set hH12 (i := 0) rfl (run_stW (c' := (latL _).toArray) rfl rfl rfl (latL_one (hs.at (by omega) (by omega))) (hH12.blk (i := 0) rfl) rfl) <| fun w14 hH15 => ?_
    simp only [z2] at hH15
    refine RL.nil <| SR <| V (fA underlying67 1 rfl sizeOf65 rfl) <| V (run_ldSub (sub := shpL _) underlying65 rfl rfl rfl (hH15.blk (i := 0) rfl) rfl) <| RL.callP rfl hH15 (c_clearancelaw07_Big _  _ ((hs.at (by omega) (by omega)).mono hH15.kw)) (run_call1 call41 rfl) <| fun w16 hH17 => mB rfl <| RL.split (dj := 27) rfl (fun h19 => ?_) (fun h19 => ?_)
    ·refine gF rfl (bR (c := true) h19) <| gF rfl (bR (c := true) h19) <| gF rfl (bR (c := true) h19) <| gF rfl (bR (c := true) h19) <| V (run_pickT (bR (c := true) h19) (v := B true) rfl) <| RL.nil <| CW.condT rfl <| SR <| va (v := B true) rfl <| RL.nil <| CW.ret <| outP1 Tryz.results18 (congrArg B ?_) hH17.below
     (rw [bigScp, any_yes (d := lat0) (P := bigL) h0 ‹k < _› (by rw [bigL, Bool.or_eq_true]; exact .inl ‹_›)]; simp)
    ·refine gT rfl (bR (c := false) h19) <| V (fA underlying67 0 rfl sizeOf9 rfl) <| gT rfl (bR (c := false) h19) <| V (run_ld underlying9 rfl rfl (hH17.cell (i := 0) rfl (v := .string _) rfl)) <| gT rfl (bR (c := false) h19) <| V (run_lenStr rfl underlying9 rfl) <| gT rfl (bR (c := false) h19) <| V (run_gtr rfl rfl) <| V (run_pickF (bR (c := false) h19) (v := B _) rfl) <| RL.nil <| CW.condP rfl (fun h21 => ?_) (fun h21 => ?_)
     ·refine SR <| va (v := B true) rfl <| RL.nil <| CW.ret <| outP1 Tryz.results18 (congrArg B ?_) hH17.below
      (rw [bigScp, any_yes (d := lat0) (P := bigL) h0 ‹k < _› (by rw [bigL, Bool.or_eq_true]; exact .inr (decide_eq_true (by omega)))]; simp)
     ·refine CW.skip <| CW.region <| V (run_add e20_8 rfl (by omega)) <| mI rfl <| RL.nil <| ?_
      refine ⟨k + 1, ?_, fr8.u4.u4.u4.u1.u1.u1, (hH17.sub (sQ sR)), (congrArg I (by rfl)), ?_, ?_, ?_⟩
      ·((try dsimp only); omega)
      ·omega
      ·omega
      ·exact fun j a b => if e : j = k then e ▸ (by rw [bigL, Bool.or_eq_false_iff]; exact ⟨‹_›, decide_eq_false (by omega)⟩) else hg j a (by omega)
   ·refine CW.exit (id := 0) rfl <| CW.seq <| SR <| V (fA underlying25 1 rfl sizeOf23 e1_8) <| V (run_ldV (hs.vars.sl.hp hH8) underlying23 rfl rfl (hH8.cell (i := 0) rfl rfl)) <| V (run_lenSl (hs.vars.sl.hp hH8) rfl underlying23 rfl) <| vm (v := I 0) rfl <| RL.nil <| CW.block <| have hla : s.lats.any bigL = false := any_no (d := lat0) ‹_› hg; CW.loop (G := Int) (fun j s' w' => (Fr (2 :: (6 :: (rg 37 9 []))) _ s') ∧ (Hp w w' _) ∧ (s' 37 = I j) ∧ (0 ≤ j) ∧ (j ≤ s.vars.length) ∧ (∀ i : Int, 0 ≤ i → i < j → bigV (s.vars.getD i.toNat var0) = false)) (fun j => (s.vars.length - j).toNat) (0) ⟨Fr.refl _ _, hH8, rfl, (by omega), (by omega), fun j a b => absurd b (by omega)⟩ <| ?_
    rintro j sg22 w22 ⟨fr22, hH22, e37_22, j0, jk, hv⟩
    have e35_22 := (fr22 35 rfl).trans (by conv => lhs; whnf)
    have e36_22 := fr22.ii 36 rfl rfl
    refine SR <| V (run_lss e37_22 e36_22) <| RL.nil <| CW.seq <| CW.condP rfl (fun h24 => ?_) (fun h24 => ?_)
    ·refine CW.skip <| CW.seq <| CW.block <| SR <| V (run_indexAddrS (hs.vars.sl.hp hH22) underlying23 sizeOf69 e35_22 e37_22 (by omega)) <| V (run_ldE (dv := var0) varL_len (hs.vars.sl.hp hH22) underlying69 rfl rfl rfl (by omega)) <| RL.new rfl hH22 (f := fun b => (.pointer (some ⟨b, 0, none⟩))) (run_alloc Tryz.zeroValue69) <| fun b27 w25 hH26 => RL.set hH26 (i := 0) rfl (run_stW (c' := (varL _).toArray) rfl rfl rfl (by simp [varL, Value.oneCell']) (hH26.blk (i := 0) rfl) rfl) <| fun w28 hH29 => ?_
     simp only [z2] at hH29
     refine RL.nil <| SR <| V (fA underlying69 0 rfl sizeOf9 rfl) <| V (run_ld underlying9 rfl rfl (hH29.cell (i := 0) rfl (v := .string _) rfl)) <| V (run_lenStr rfl underlying9 rfl) <| V (run_gtr rfl rfl) <| RL.nil <| CW.condP rfl (fun h31 => ?_) (fun h31 => ?_)
     ·refine SR <| va (v := B true) rfl <| RL.nil <| CW.ret <| outP1 Tryz.results18 (congrArg B ?_) hH29.below
      (rw [bigScp, any_yes (d := var0) (P := bigV) j0 ‹j < _› (decide_eq_true (by omega))]; simp)
     ·refine CW.skip <| CW.region <| V (run_add e37_22 rfl (by omega)) <| mI rfl <| RL.nil <| ?_
      refine ⟨j + 1, ?_, fr22.u4.u4.u1.u1, (hH29.sub (sQ sR)), (congrArg I (by rfl)), ?_, ?_, ?_⟩
      ·((try dsimp only); omega)
      ·omega
      ·omega
      ·exact fun i a b => if e : i = j then e ▸ (decide_eq_false (by omega)) else hv i a (by omega)
    ·refine CW.exit (id := 2) rfl <| SR <| va (v := B false) rfl <| RL.nil <| CW.ret <| outP1 Tryz.results18 (congrArg B ?_) hH22.below
     (rw [bigScp, hla, any_no (d := var0) ‹_› hv, decide_eq_false hno]; rfl)
theorem c_clearanceref13_Right (s : Scp) (w : World) (hs : ScpV (Kw w) s) : Calls Tryz.prog 16 #[.agg (scpC s)] w (Pure (B (rightS s)) w) := by
 have hm1 := hs.lats.sl.small
 have hm2 := hs.vars.sl.small
 unfold maxLen at hm1 hm2
 refine enter Tryz.func16 rfl Tryz.ntmps16 rfl <| have hH := Hp.start w; SR <| RL.new rfl hH (f := fun b => (.pointer (some ⟨b, 0, none⟩))) (run_box (v := .agg _) rfl) <| fun b3 w1 hH2 => va (v := B false) rfl <| RL.nil <| SR <| va (v := .slice none 0 0) rfl <| have hH4 := hH2.nilRow 9 1; RL.nil <| CW.seq <| SR <| V (fA underlying25 0 rfl sizeOf22 rfl) <| V (run_ldV (hs.lats.sl.hp hH4) underlying22 rfl rfl (hH4.cell (i := 1) rfl rfl)) <| V (run_lenSl (hs.lats.sl.hp hH4) rfl underlying22 rfl) <| V (run_gtr rfl rfl) <| mB rfl <| RL.splitP (dj := 12) rfl (fun h6 => ?_) (fun h6 => ?_)
 ·refine gF rfl (bT h6) <| gF rfl (bT h6) <| gF rfl (bT h6) <| gF rfl (bT h6) <| V (run_pickT (bT h6) (v := B true) rfl) <| RL.nil <| CW.condT rfl <| SR <| va (v := B false) rfl <| RL.nil <| CW.ret <| outP1 Tryz.results16 (congrArg B ?_) hH4.below
  exact (right_no1 (by omega)).symm
 ·refine gT rfl (bF h6) <| V (fA underlying25 1 rfl sizeOf23 rfl) <| gT rfl (bF h6) <| V (run_ldV (hs.vars.sl.hp hH4) underlying23 rfl rfl (hH4.cell (i := 1) rfl rfl)) <| gT rfl (bF h6) <| V (run_lenSl (hs.vars.sl.hp hH4) rfl underlying23 rfl) <| gT rfl (bF h6) <| V (run_gtr rfl rfl) <| V (run_pickF (bF h6) (v := B _) rfl) <| RL.nil <| CW.condP rfl (fun h8 => ?_) (fun h8 => ?_)
  ·refine SR <| va (v := B false) rfl <| RL.nil <| CW.ret <| outP1 Tryz.results16 (congrArg B ?_) hH4.below
   exact (right_no1 (by omega)).symm
  ·refine CW.skip <| CW.seq <| SR <| va (v := I 0) rfl <| RL.nil <| CW.block <| have hsz : s.lats.length ≤ 16 ∧ s.vars.length ≤ 64 := (by omega); have hnl : (namesS s).length = s.lats.length + s.vars.length := (by simp [namesS]); CW.loop (G := Int × (List Tx) × Value) (fun ⟨k, m, v3⟩ s' w' => (Fr (rg 2 3 (rg 18 24 [])) _ s') ∧ (Hp w w' (.row v3 9 1 (m.length) (txL m) :: _)) ∧ (s' 3 = v3) ∧ (s' 4 = I k) ∧ (0 ≤ k) ∧ (k ≤ s.lats.length) ∧ (m = (s.lats.take k.toNat).map LatR.name) ∧ ((m.length : Int) = k) ∧ (∀ j : Int, 0 ≤ j → j < k → shR (s.lats.getD j.toNat lat0).shp.sh = true)) (fun ⟨k, m, v3⟩ => (s.lats.length - k).toNat) ((0, [], (.slice none 0 0 : Value))) ⟨Fr.refl _ _, hH4, rfl, rfl, (by omega), (by omega), rfl, rfl, fun j a b => absurd b (by omega)⟩ <| ?_
   rintro ⟨k, m, v3⟩ sg9 w9 ⟨fr9, hH9, e3_9, e4_9, h0, hk, hm, hml, hg⟩
   have e1_9 := fr9.pp 1 rfl rfl
   refine CW.seq <| SR <| vm e4_9 <| V (fA underlying25 0 rfl sizeOf22 e1_9) <| V (run_ldV (hs.lats.sl.hp hH9) underlying22 rfl rfl (hH9.cell (i := 1) rfl rfl)) <| V (run_lenSl (hs.lats.sl.hp hH9) rfl underlying22 rfl) <| V (run_lss rfl rfl) <| RL.nil <| CW.condP rfl (fun h11 => ?_) (fun h11 => ?_)
   ·refine CW.skip <| CW.seq <| CW.block <| CW.seq <| SR <| V (fA underlying25 0 rfl sizeOf22 e1_9) <| V (run_ldV (hs.lats.sl.hp hH9) underlying22 rfl rfl (hH9.cell (i := 1) rfl rfl)) <| vm e4_9 <| V (run_indexAddrS (hs.lats.sl.hp hH9) underlying22 sizeOf67 rfl rfl (by omega)) <| V (fA underlying67 1 rfl sizeOf65 rfl) <| V (run_ldEA (dv := lat0) (off := 1) (cs := shpL _) latL_len (hs.lats.sl.hp hH9) underlying65 rfl rfl rfl (by omega) (lat_shp _)) <| RL.callP rfl hH9 (c_clearanceref07_Right _  _ ((hs.at (by omega) (by omega)).mono hH9.kw)) (run_call1 call35 rfl) <| fun w12 hH13 => V (run_not rfl) <| RL.nil <| CW.cond rfl (fun h16 => ?_) (fun h16 => ?_)
    ·refine SR <| va (v := B false) rfl <| RL.nil <| CW.ret <| outP1 Tryz.results16 (congrArg B ?_) hH13.below
     exact (right_no2 h0 ‹k < _› (by rw [latOk, nt ‹(!shR _) = true›, Bool.and_false])).symm
    ·refine CW.skip <| CW.region <| vm e3_9 <| V (fA underlying25 0 rfl sizeOf22 e1_9) <| V (run_ldV (hs.lats.sl.hp hH13) underlying22 rfl rfl (hH13.cell (i := 1) rfl rfl)) <| vm e4_9 <| V (run_indexAddrS (hs.lats.sl.hp hH13) underlying22 sizeOf67 rfl rfl (by omega)) <| V (fA underlying67 0 rfl sizeOf9 rfl) <| V (run_ldE1 (dv := lat0) (off := 0) latL_len (hs.lats.sl.hp hH13) underlying9 rfl rfl (by omega) rfl) <| RL.new rfl hH13 (f := fun b => (.slice (some ⟨b, 0, none⟩) 1 1)) (run_mkL underlying57 rfl rfl (sz := 1) (vs := [.string _]) rfl rfl (by decide) (by decide) rfl rfl) <| fun b19 w17 hH18 => ?_
     (try simp only [clX] at hH18)
     refine RL.app rfl hH18 (i := 1) rfl (hH18.slBlk (i := 0) (n := 1) (sz := 1) rfl rfl (by decide)) rfl rfl underlying57 rfl rfl (size := 1) (bytes := 16) rfl rfl rfl (by decide) (by simp [Value.oneCell']) (by omega) (by simp only [maxLen]; omega) <| fun v20 w21 hH22 => ?_
     simp only [z2] at hH22
     refine V (run_assign (by conv => lhs; whnf)) ?_
     refine RL.nil <| CW.region <| vm e4_9 <| V (run_add rfl rfl (by omega)) <| aI rfl <| RL.nil <| ?_
     refine ⟨(k + 1, m ++ [(s.lats.getD k.toNat lat0).name], v20), ?_, fr9.u4.u4.u4.u4.u4.u4.u1.u1, (Hp.conv (hH22.sub (sQ sR)) (by simp)), rfl, (congrArg I (by rfl)), ?_, ?_, ?_, ?_, ?_⟩
     ·((try dsimp only); omega)
     ·omega
     ·omega
     ·rw [lnames_next h0 ‹k < _›, ← hm]
     ·simp only [List.length_append, List.length_singleton]; omega
     ·exact fun j a b => if e : j = k then e ▸ nf ‹(!shR _) = false› else hg j a (by omega)
   ·refine CW.exit (id := 0) rfl <| CW.seq <| SR <| va (v := I 0) rfl <| RL.nil <| CW.block <| CW.loop (G := Int × (List Tx) × Value) (fun ⟨j, m2, v3⟩ s' w' => (Fr (2 :: 3 :: (5 :: 6 :: (rg 42 38 []))) _ s') ∧ (Hp w w' (.row v3 9 1 (m2.length) (txL m2) :: _)) ∧ (s' 3 = v3) ∧ (s' 5 = I j) ∧ (0 ≤ j) ∧ (j ≤ s.vars.length) ∧ (m2 = m ++ (s.vars.take j.toNat).map VarR.name) ∧ ((m2.length : Int) = k + j) ∧ (∀ i : Int, 0 ≤ i → i < j → ((s.vars.getD i.toNat var0).kind = 1 ∨ (s.vars.getD i.toNat var0).kind = 2) ∧ 0 ≤ (s.vars.getD i.toNat var0).lat ∧ (s.vars.getD i.toNat var0).lat < s.lats.length)) (fun ⟨j, m2, v3⟩ => (s.vars.length - j).toNat) ((0, m, (v3 : Value))) ⟨Fr.refl _ _, hH9, e3_9, rfl, (by omega), (by omega), (List.append_nil m).symm, (by omega), fun j a b => absurd b (by omega)⟩ <| ?_
    rintro ⟨j, m2, v3⟩ sg23 w23 ⟨fr23, hH23, e3_23, e5_23, j0, hj, hm2, hml2, hv⟩
    have e1_23 := (fr23 1 rfl).trans e1_9
    refine CW.seq <| SR <| vm e5_23 <| V (fA underlying25 1 rfl sizeOf23 e1_23) <| V (run_ldV (hs.vars.sl.hp hH23) underlying23 rfl rfl (hH23.cell (i := 1) rfl rfl)) <| V (run_lenSl (hs.vars.sl.hp hH23) rfl underlying23 rfl) <| V (run_lss rfl rfl) <| RL.nil <| CW.condP rfl (fun h25 => ?_) (fun h25 => ?_)
    ·refine CW.skip <| CW.seq <| CW.block <| SR <| V (fA underlying25 1 rfl sizeOf23 e1_23) <| V (run_ldV (hs.vars.sl.hp hH23) underlying23 rfl rfl (hH23.cell (i := 1) rfl rfl)) <| vm e5_23 <| V (run_indexAddrS (hs.vars.sl.hp hH23) underlying23 sizeOf69 rfl rfl (by omega)) <| V (run_ldE (dv := var0) varL_len (hs.vars.sl.hp hH23) underlying69 rfl rfl rfl (by omega)) <| RL.new rfl hH23 (f := fun b => (.pointer (some ⟨b, 0, none⟩))) (run_alloc Tryz.zeroValue69) <| fun b28 w26 hH27 => RL.set hH27 (i := 0) rfl (run_stW (c' := (varL _).toArray) rfl rfl rfl (by simp [varL, Value.oneCell']) (hH27.blk (i := 0) rfl) rfl) <| fun w29 hH30 => ?_
     simp only [z2] at hH30
     refine RL.nil <| CW.seq <| SR <| V (fA underlying69 1 rfl sizeOf3 rfl) <| V (run_ld underlying3 rfl rfl (hH30.cell (i := 0) rfl (v := I _) rfl)) <| V (run_neq rfl rfl) <| mB rfl <| RL.splitP (dj := 57) rfl (fun h32 => ?_) (fun h32 => ?_)
     ·refine gT rfl (bT h32) <| V (fA underlying69 1 rfl sizeOf3 rfl) <| gT rfl (bT h32) <| V (run_ld underlying3 rfl rfl (hH30.cell (i := 0) rfl (v := I _) rfl)) <| gT rfl (bT h32) <| V (run_neq rfl rfl) <| V (run_pickT (bT h32) (v := B _) rfl) <| mB rfl <| RL.splitP (dj := 62) rfl (fun h34 => ?_) (fun h34 => ?_)
      ·refine gF rfl (bT h34) <| gF rfl (bT h34) <| gF rfl (bT h34) <| V (run_pickT (bT h34) (v := B true) rfl) <| mB rfl <| gF rfl rfl <| gF rfl rfl <| gF rfl rfl <| gF rfl rfl <| gF rfl rfl <| gF rfl rfl <| V (run_pickT rfl (v := B true) rfl) <| RL.nil <| CW.condT rfl <| SR <| va (v := B false) rfl <| RL.nil <| CW.ret <| outP1 Tryz.results16 (congrArg B ?_) hH30.below
       exact (right_no3 j0 ‹j < _› (by rw [varOk, decide_eq_false (by omega), Bool.and_false])).symm
      ·refine gT rfl (bF h34) <| V (fA underlying69 2 rfl sizeOf3 rfl) <| gT rfl (bF h34) <| V (run_ld underlying3 rfl rfl (hH30.cell (i := 0) rfl (v := I _) rfl)) <| gT rfl (bF h34) <| V (run_lss rfl rfl) <| V (run_pickF (bF h34) (v := B _) rfl) <| mB rfl <| RL.splitP (dj := 67) rfl (fun h36 => ?_) (fun h36 => ?_)
       ·refine gF rfl (bT h36) <| gF rfl (bT h36) <| gF rfl (bT h36) <| gF rfl (bT h36) <| gF rfl (bT h36) <| gF rfl (bT h36) <| V (run_pickT (bT h36) (v := B true) rfl) <| RL.nil <| CW.condT rfl <| SR <| va (v := B false) rfl <| RL.nil <| CW.ret <| outP1 Tryz.results16 (congrArg B ?_) hH30.below
        exact (right_no3 j0 ‹j < _› (by rw [varOk, decide_eq_false (by omega), Bool.and_false])).symm
       ·refine gT rfl (bF h36) <| V (fA underlying69 2 rfl sizeOf3 rfl) <| gT rfl (bF h36) <| V (run_ld underlying3 rfl rfl (hH30.cell (i := 0) rfl (v := I _) rfl)) <| gT rfl (bF h36) <| V (fA underlying25 0 rfl sizeOf22 e1_23) <| gT rfl (bF h36) <| V (run_ldV (hs.lats.sl.hp hH30) underlying22 rfl rfl (hH30.cell (i := 2) rfl rfl)) <| gT rfl (bF h36) <| V (run_lenSl (hs.lats.sl.hp hH30) rfl underlying22 rfl) <| gT rfl (bF h36) <| V (run_geq rfl rfl) <| V (run_pickF (bF h36) (v := B _) rfl) <| RL.nil <| CW.condP rfl (fun h38 => ?_) (fun h38 => ?_)
        ·refine SR <| va (v := B false) rfl <| RL.nil <| CW.ret <| outP1 Tryz.results16 (congrArg B ?_) hH30.below
         exact (right_no3 j0 ‹j < _› (by rw [varOk, decide_eq_false (by omega), Bool.and_false])).symm
        ·refine CW.skip <| CW.region <| vm e3_23 <| V (fA underlying69 0 rfl sizeOf9 rfl) <| V (run_ld underlying9 rfl rfl (hH30.cell (i := 0) rfl (v := .string _) rfl)) <| RL.new rfl hH30 (f := fun b => (.slice (some ⟨b, 0, none⟩) 1 1)) (run_mkL underlying57 rfl rfl (sz := 1) (vs := [.string _]) rfl rfl (by decide) (by decide) rfl rfl) <| fun b41 w39 hH40 => ?_
         (try simp only [clX] at hH40)
         refine RL.app rfl hH40 (i := 2) rfl (hH40.slBlk (i := 0) (n := 1) (sz := 1) rfl rfl (by decide)) rfl rfl underlying57 rfl rfl (size := 1) (bytes := 16) rfl rfl rfl (by decide) (by simp [Value.oneCell']) (by omega) (by simp only [maxLen]; omega) <| fun v42 w43 hH44 => ?_
         simp only [z2] at hH44
         refine V (run_assign (by conv => lhs; whnf)) ?_
         refine RL.nil <| CW.region <| vm e5_23 <| V (run_add rfl rfl (by omega)) <| aI rfl <| RL.nil <| ?_
         refine ⟨(j + 1, m2 ++ [(s.vars.getD j.toNat var0).name], v42), ?_, fr23.u4.u4.u4.u4.u4.u4.u4.u4.u4.u4.u1, (Hp.conv (hH44.sub (sQ (sQ sR))) (by simp)), rfl, (congrArg I (by rfl)), ?_, ?_, ?_, ?_, ?_⟩
         ·((try dsimp only); omega)
         ·omega
         ·omega
         ·rw [vnames_next j0 ‹j < _›, hm2, List.append_assoc]
         ·simp only [List.length_append, List.length_singleton]; omega
         ·exact fun i a b => if e : i = j then e ▸ (by omega) else hv i a (by omega)
     ·refine gF rfl (bF h32) <| gF rfl (bF h32) <| gF rfl (bF h32) <| V (run_pickF (bF h32) (v := B false) rfl) <| mB rfl <| gT rfl rfl <| V (fA underlying69 2 rfl sizeOf3 rfl) <| gT rfl rfl <| V (run_ld underlying3 rfl rfl (hH30.cell (i := 0) rfl (v := I _) rfl)) <| gT rfl rfl <| V (run_lss rfl rfl) <| V (run_pickF rfl (v := B _) rfl) <| mB rfl <| RL.splitP (dj := 67) rfl (fun h46 => ?_) (fun h46 => ?_)
      ·refine gF rfl (bT h46) <| gF rfl (bT h46) <| gF rfl (bT h46) <| gF rfl (bT h46) <| gF rfl (bT h46) <| gF rfl (bT h46) <| V (run_pickT (bT h46) (v := B true) rfl) <| RL.nil <| CW.condT rfl <| SR <| va (v := B false) rfl <| RL.nil <| CW.ret <| outP1 Tryz.results16 (congrArg B ?_) hH30.below
       exact (right_no3 j0 ‹j < _› (by rw [varOk, decide_eq_false (by omega), Bool.and_false])).symm
      ·refine gT rfl (bF h46) <| V (fA underlying69 2 rfl sizeOf3 rfl) <| gT rfl (bF h46) <| V (run_ld underlying3 rfl rfl (hH30.cell (i := 0) rfl (v := I _) rfl)) <| gT rfl (bF h46) <| V (fA underlying25 0 rfl sizeOf22 e1_23) <| gT rfl (bF h46) <| V (run_ldV (hs.lats.sl.hp hH30) underlying22 rfl rfl (hH30.cell (i := 2) rfl rfl)) <| gT rfl (bF h46) <| V (run_lenSl (hs.lats.sl.hp hH30) rfl underlying22 rfl) <| gT rfl (bF h46) <| V (run_geq rfl rfl) <| V (run_pickF (bF h46) (v := B _) rfl) <| RL.nil <| CW.condP rfl (fun h48 => ?_) (fun h48 => ?_)
       ·refine SR <| va (v := B false) rfl <| RL.nil <| CW.ret <| outP1 Tryz.results16 (congrArg B ?_) hH30.below
        exact (right_no3 j0 ‹j < _› (by rw [varOk, decide_eq_false (by omega), Bool.and_false])).symm
       ·refine CW.skip <| CW.region <| vm e3_23 <| V (fA underlying69 0 rfl sizeOf9 rfl) <| V (run_ld underlying9 rfl rfl (hH30.cell (i := 0) rfl (v := .string _) rfl)) <| RL.new rfl hH30 (f := fun b => (.slice (some ⟨b, 0, none⟩) 1 1)) (run_mkL underlying57 rfl rfl (sz := 1) (vs := [.string _]) rfl rfl (by decide) (by decide) rfl rfl) <| fun b51 w49 hH50 => ?_
        (try simp only [clX] at hH50)
        refine RL.app rfl hH50 (i := 2) rfl (hH50.slBlk (i := 0) (n := 1) (sz := 1) rfl rfl (by decide)) rfl rfl underlying57 rfl rfl (size := 1) (bytes := 16) rfl rfl rfl (by decide) (by simp [Value.oneCell']) (by omega) (by simp only [maxLen]; omega) <| fun v52 w53 hH54 => ?_
        simp only [z2] at hH54
        refine V (run_assign (by conv => lhs; whnf)) ?_
        refine RL.nil <| CW.region <| vm e5_23 <| V (run_add rfl rfl (by omega)) <| aI rfl <| RL.nil <| ?_
        refine ⟨(j + 1, m2 ++ [(s.vars.getD j.toNat var0).name], v52), ?_, fr23.u4.u4.u4.u4.u4.u4.u4.u4.u4.u4.u1, (Hp.conv (hH54.sub (sQ (sQ sR))) (by simp)), rfl, (congrArg I (by rfl)), ?_, ?_, ?_, ?_, ?_⟩
        ·((try dsimp only); omega)
        ·omega
        ·omega
        ·rw [vnames_next j0 ‹j < _›, hm2, List.append_assoc]
        ·simp only [List.length_append, List.length_singleton]; omega
        ·exact fun i a b => if e : i = j then e ▸ (by omega) else hv i a (by omega)
    ·refine CW.exit (id := 2) rfl <| CW.seq <| SR <| va (v := I 0) rfl <| RL.nil <| CW.block <| have hnm : m2 = namesS s := (by rw [hm2, hm, List.take_of_length_le (by omega), List.take_of_length_le (by omega)]; rfl); CW.loop (G := Int) (fun i s' w' => (Fr (2 :: (7 :: (rg 80 12 []))) _ s') ∧ (Hp w w' _) ∧ (s' 7 = I i) ∧ (0 ≤ i) ∧ (i ≤ m2.length) ∧ (∀ x : Int, 0 ≤ x → x < i → nameR (m2.getD x.toNat tx0) = true)) (fun i => (m2.length - i).toNat) (0) ⟨Fr.refl _ _, hH23, rfl, (by omega), (by omega), fun j a b => absurd b (by omega)⟩ <| ?_
     rintro i sg55 w55 ⟨fr55, hH55, e7_55, i0, i1, hn⟩
     have e3_55 := (fr55 3 rfl).trans e3_23
     refine CW.seq <| SR <| vm e7_55 <| vm e3_55 <| V (run_lenSl (hH55.sl (i := 0) rfl) rfl underlying57 rfl) <| V (run_lss rfl rfl) <| RL.nil <| CW.condP rfl (fun h57 => ?_) (fun h57 => ?_)
     ·refine CW.skip <| CW.seq <| CW.block <| SR <| vm e3_55 <| vm e7_55 <| V (run_indexAddrS (hH55.sl (i := 0) rfl) underlying57 sizeOf9 rfl rfl (by omega)) <| V (run_ld underlying9 rfl rfl ((hH55.sl (i := 0) rfl).cell _ _ (txL_at (by omega)))) <| RL.callP rfl hH55 (c_clearanceref02_Right _  _) (run_call1 call36 rfl) <| fun w58 hH59 => V (run_not rfl) <| RL.nil <| CW.cond rfl (fun h62 => ?_) (fun h62 => ?_)
      ·refine SR <| va (v := B false) rfl <| RL.nil <| CW.ret <| outP1 Tryz.results16 (congrArg B ?_) hH59.below
       exact (right_name i0 (by rw [hnm] at *; omega) (by rw [← hnm]; exact nt ‹(!nameR _) = true›)).symm
      ·refine CW.skip <| CW.region <| vm e7_55 <| V (run_add rfl rfl (by omega)) <| aI rfl <| RL.nil <| ?_
       refine ⟨i + 1, ?_, fr55.u4.u4.u4.u1, hH59, (congrArg I (by rfl)), ?_, ?_, ?_⟩
       ·((try dsimp only); omega)
       ·omega
       ·omega
       ·exact fun x a b => if e : x = i then e ▸ nf ‹(!nameR _) = false› else hn x a (by omega)
     ·refine CW.exit (id := 4) rfl <| SR <| vm e3_55 <| RL.callP rfl hH55 (c_clearanceref02_Twice _ _  _ (hH55.sl (i := 0) rfl)) (run_call1 call37 rfl) <| fun w63 hH64 => V (run_lss rfl rfl) <| aB rfl <| RL.nil <| CW.ret <| outP1 Tryz.results16 (congrArg B ?_) hH64.below
      (rw [hnm] at *; exact (right_all hk hj hsz ‹¬ k < _› hg ‹¬ j < _› hv ‹¬ i < _› hn).symm)
theorem c_clearanceref18_With (v : Value) (l : List ValR) (f : Tx) (e : El) (hl : l.length ≤ 3000) (hf : f.size ≤ 1000) (w : World) (hs : Sl w v 9 l.length (l.flatMap valL)) : Calls Tryz.prog 47 #[v, S f, .agg (elC e)] w (PureRow 56 9 (withF l f e).length ((withF l f e).flatMap valL) w) := by
 have hm := hs.small
 unfold maxLen at hm
 refine enter Tryz.func47 rfl Tryz.ntmps47 rfl <| have hH := Hp.start w; SR <| RL.new rfl hH (f := fun b => (.pointer (some ⟨b, 0, none⟩))) (run_box (v := .agg _) rfl) <| fun b3 w1 hH2 => va (v := .slice none 0 0) rfl <| RL.nil <| SR <| va (v := .slice none 0 0) rfl <| have hH4 := hH2.nilRow 56 9; RL.nil <| SR <| ?_
 refine V (run_move (by conv => lhs; whnf)) ?_
 refine vm (v := .string _) rfl <| RL.callP rfl hH4 (c_clearanceref18_Get _ _ _  _ (hs.hp hH4)) (run_call2 call25 rfl rfl) <| fun w5 hH6 => ?_
 refine V (run_move (by conv => lhs; whnf)) ?_
 refine V (run_extract rfl (v := .agg _) rfl) <| V (run_extract rfl (v := B _) rfl) <| RL.new rfl hH6 (f := fun b => (.pointer (some ⟨b, 0, none⟩))) (run_alloc zero_el) <| fun b10 w8 hH9 => RL.set hH9 (i := 0) rfl (run_stEl rfl rfl rfl (hH9.blk (i := 0) rfl)) <| fun w11 hH12 => ?_
 simp only [z2] at hH12
 refine aB rfl <| RL.nil <| SR <| va (v := B false) rfl <| RL.nil <| CW.seq <| SR <| va (v := I 0) rfl <| RL.nil <| CW.block <| CW.loop (G := Int × Bool × (List ValR) × Value) (fun ⟨k, dn, m, v7⟩ s' w' => (Fr (7 :: (10 :: 11 :: (rg 18 47 []))) _ s') ∧ (Hp w w' (_ :: .row v7 56 9 (m.length) (m.flatMap valL) :: _)) ∧ (s' 7 = v7) ∧ (s' 10 = B dn) ∧ (s' 11 = I k) ∧ (0 ≤ k) ∧ (k ≤ l.length) ∧ (m = wTo l f e k dn) ∧ (wIs l f k dn) ∧ ((m.length : Int) ≤ k + 1)) (fun ⟨k, dn, m, v7⟩ => (l.length - k).toNat) ((0, false, [], (.slice none 0 0 : Value))) ⟨Fr.refl _ _, hH12, rfl, rfl, rfl, (by omega), (by omega), w_0.1, (w_0 (e := e)).2, (by simp)⟩ <| ?_
 rintro ⟨k, dn, m, v7⟩ sg13 w13 ⟨fr13, hH13, e7_13, e10_13, e11_13, h0, hk, hm, hd, hml⟩
 have e0_13 := (fr13 0 rfl).trans (by conv => lhs; whnf)
 have e1_13 := fr13.ss 1 rfl rfl
 have e5_13 := fr13.pp 5 rfl rfl
 have e9_13 := fr13.bb 9 rfl rfl
 refine CW.seq <| SR <| vm e11_13 <| vm e0_13 <| V (run_lenSl (hs.hp hH13) rfl underlying54 rfl) <| V (run_lss rfl rfl) <| RL.nil <| CW.condP rfl (fun h16 => ?_) (fun h16 => ?_)
 ·refine CW.skip <| CW.seq <| CW.block <| CW.seq <| SR <| vm e10_13 <| V (run_not rfl) <| mB rfl <| RL.split (dj := 26) rfl (fun h18 => ?_) (fun h18 => ?_)
  ·refine gT rfl (bR (c := true) h18) <| vm e9_13 <| gT rfl (bR (c := true) h18) <| mB rfl <| RL.split (dj := 28) rfl (fun h19 => ?_) (fun h19 => ?_)
   ·refine gT rfl (bR (c := true) h19) <| vm e0_13 <| gT rfl (bR (c := true) h19) <| vm e11_13 <| gT rfl (bR (c := true) h19) <| V (run_indexAddrS (hs.hp hH13) underlying54 sizeOf56 rfl rfl (by omega)) <| gT rfl (bR (c := true) h19) <| V (fA underlying56 0 rfl sizeOf9 rfl) <| gT rfl (bR (c := true) h19) <| V (run_ldE1 (dv := val0) (off := 0) valL_len (hs.hp hH13) underlying9 rfl rfl (by omega) rfl) <| gT rfl (bR (c := true) h19) <| vm e1_13 <| gT rfl (bR (c := true) h19) <| V (run_eqlS rfl rfl) <| gT rfl (bR (c := true) h18) <| V (run_pickT (bR (c := true) h19) (v := B _) rfl) <| gT rfl (bR (c := true) h18) <| mB rfl <| RL.splitP (dj := 37) rfl (fun h21 => ?_) (fun h21 => ?_)
    ·refine gF rfl (bT h21) <| gF rfl (bT h21) <| gF rfl (bT h21) <| RL.gU rfl rfl rfl <| RL.gU rfl rfl rfl <| RL.gU rfl rfl rfl <| RL.gU rfl rfl rfl <| RL.gU rfl rfl rfl <| RL.gU rfl rfl rfl <| RL.gU rfl rfl rfl <| gF rfl (bT h21) <| gT rfl (bR (c := true) h18) <| V (run_pickT (bT h21) (v := B true) rfl) <| V (run_pickT (bR (c := true) h18) (v := B _) rfl) <| RL.nil <| CW.condT rfl <| SR <| vm e7_13 <| vm e1_13 <| V (run_ldEl underlying39 rfl rfl e5_13 (hH13.blk (i := 2) rfl)) <| V (run_bld (vs := [(0, S _), (1, .agg (elC _))]) rfl (built_val _ _)) <| RL.new rfl hH13 (f := fun b => (.slice (some ⟨b, 0, none⟩) 1 1)) (run_mkRecs valL_len underlying54 rfl rfl rfl (l := [⟨f, e⟩]) rfl (by decide) (by decide) rfl) <| fun b24 w22 hH23 => RL.app rfl hH23 (i := 2) rfl (Hp.slFlat valL_len hH23 (i := 0) (l := [⟨f, e⟩]) rfl (by simp [maxLen])) rfl rfl underlying54 rfl rfl (size := 9) (bytes := 80) rfl rfl rfl (by decide) (vals_one _) (by simp only [List.length_cons, List.length_nil]; omega) (by simp only [maxLen, List.length_cons, List.length_nil]; omega) <| fun v25 w26 hH27 => ?_
     simp only [z2] at hH27
     refine V (run_assign (by conv => lhs; whnf)) ?_
     refine RL.nil <| SR <| va (v := B true) rfl <| RL.nil <| SR <| vm e9_13 <| RL.nil <| CW.condT (bR (c := true) h19) <| CW.exit (id := 1) rfl <| CW.region <| vm e11_13 <| V (run_add rfl rfl (by omega)) <| aI rfl <| RL.nil <| ?_
     refine ⟨(k + 1, true, m ++ [⟨f, e⟩], v25), ?_, fr13.u4.u4.u4.u4.u4.u4.u4.u4.u4.u4.u1.u1.u1, (Hp.conv (hH27.sub (sQ sR)) (by simp)), rfl, rfl, (congrArg I (by rfl)), ?_, ?_, ?_, ?_, ?_⟩
     ·((try dsimp only); omega)
     ·omega
     ·omega
     ·exact (w_1 h0 ‹k < _› hm hd ‹(!dn) = true› ‹(getF l f).2 = true› ‹(List.getD l k.toNat val0).name = f›).1
     ·exact (w_1 h0 ‹k < _› hm hd ‹(!dn) = true› ‹(getF l f).2 = true› ‹(List.getD l k.toNat val0).name = f›).2
     ·(rw [(w_1 h0 ‹k < _› hm hd ‹(!dn) = true› ‹(getF l f).2 = true› ‹(List.getD l k.toNat val0).name = f›).1]; exact wTo_le (by omega))
    ·refine gT rfl (bF h21) <| vm e9_13 <| gT rfl (bF h21) <| V (run_not (bR (c := true) h19)) <| gT rfl (bF h21) <| mB rfl <| gF rfl rfl <| gF rfl rfl <| gF rfl rfl <| gF rfl rfl <| gF rfl rfl <| gF rfl rfl <| gF rfl rfl <| gT rfl (bF h21) <| V (run_pickF rfl (v := B false) rfl) <| gT rfl (bR (c := true) h18) <| V (run_pickF (bF h21) (v := B _) rfl) <| V (run_pickT (bR (c := true) h18) (v := B _) rfl) <| RL.nil <| CW.condF rfl <| CW.skip <| CW.region <| vm e7_13 <| vm e0_13 <| vm e11_13 <| V (run_indexAddrS (hs.hp hH13) underlying54 sizeOf56 rfl rfl (by omega)) <| V (run_ldE (dv := val0) valL_len (hs.hp hH13) underlying56 rfl rfl rfl (by omega)) <| RL.new rfl hH13 (f := fun b => (.slice (some ⟨b, 0, none⟩) 1 1)) (run_mkRecs valL_len underlying54 rfl rfl rfl (l := [(l.getD k.toNat val0)]) rfl (by decide) (by decide) rfl) <| fun b30 w28 hH29 => RL.app rfl hH29 (i := 2) rfl (Hp.slFlat valL_len hH29 (i := 0) (l := [(l.getD k.toNat val0)]) rfl (by simp [maxLen])) rfl rfl underlying54 rfl rfl (size := 9) (bytes := 80) rfl rfl rfl (by decide) (vals_one _) (by simp only [List.length_cons, List.length_nil]; omega) (by simp only [maxLen, List.length_cons, List.length_nil]; omega) <| fun v31 w32 hH33 => ?_
     simp only [z2] at hH33
     refine V (run_assign (by conv => lhs; whnf)) ?_
     refine RL.nil <| CW.region <| vm e11_13 <| V (run_add rfl rfl (by omega)) <| aI rfl <| RL.nil <| ?_
     refine ⟨(k + 1, dn, m ++ [(l.getD k.toNat val0)], v31), ?_, fr13.u4.u4.u4.u4.u4.u4.u4.u4.u4.u4.u1.u1, (Hp.conv (hH33.sub (sQ sR)) (by simp)), rfl, e10_13, (congrArg I (by rfl)), ?_, ?_, ?_, ?_, ?_⟩
     ·((try dsimp only); omega)
     ·omega
     ·omega
     ·exact (w_3 h0 ‹k < _› hm hd ‹(!dn) = true› (.inl ⟨‹(getF l f).2 = true›, ‹¬ (List.getD l k.toNat val0).name = f›⟩)).1
     ·exact (w_3 h0 ‹k < _› hm hd ‹(!dn) = true› (.inl ⟨‹(getF l f).2 = true›, ‹¬ (List.getD l k.toNat val0).name = f›⟩)).2
     ·(rw [(w_3 h0 ‹k < _› hm hd ‹(!dn) = true› (.inl ⟨‹(getF l f).2 = true›, ‹¬ (List.getD l k.toNat val0).name = f›⟩)).1]; exact wTo_le (by omega))
   ·refine gF rfl (bR (c := false) h19) <| gF rfl (bR (c := false) h19) <| gF rfl (bR (c := false) h19) <| gF rfl (bR (c := false) h19) <| gF rfl (bR (c := false) h19) <| gF rfl (bR (c := false) h19) <| gF rfl (bR (c := false) h19) <| gT rfl (bR (c := true) h18) <| V (run_pickF (bR (c := false) h19) (v := B false) rfl) <| gT rfl (bR (c := true) h18) <| mB rfl <| gT rfl rfl <| vm e9_13 <| gT rfl rfl <| V (run_not (bR (c := false) h19)) <| gT rfl rfl <| mB rfl <| gT rfl rfl <| vm e1_13 <| gT rfl rfl <| vm e0_13 <| gT rfl rfl <| vm e11_13 <| gT rfl rfl <| V (run_indexAddrS (hs.hp hH13) underlying54 sizeOf56 rfl rfl (by omega)) <| gT rfl rfl <| V (fA underlying56 0 rfl sizeOf9 rfl) <| gT rfl rfl <| V (run_ldE1 (dv := val0) (off := 0) valL_len (hs.hp hH13) underlying9 rfl rfl (by omega) rfl) <| gT rfl rfl <| RL.callP rfl hH13 (c_clearanceref02_Less _ _ (.inl hf) _) (run_call2 call73 rfl rfl) <| fun w34 hH35 => gT rfl rfl <| V (run_pickT rfl (v := B _) rfl) <| gT rfl (bR (c := true) h18) <| V (run_pickF rfl (v := B _) rfl) <| V (run_pickT (bR (c := true) h18) (v := B _) rfl) <| RL.nil <| CW.cond rfl (fun h37 => ?_) (fun h37 => ?_)
    ·refine SR <| vm e7_13 <| vm e1_13 <| V (run_ldEl underlying39 rfl rfl e5_13 (hH35.blk (i := 2) rfl)) <| V (run_bld (vs := [(0, S _), (1, .agg (elC _))]) rfl (built_val _ _)) <| RL.new rfl hH35 (f := fun b => (.slice (some ⟨b, 0, none⟩) 1 1)) (run_mkRecs valL_len underlying54 rfl rfl rfl (l := [⟨f, e⟩]) rfl (by decide) (by decide) rfl) <| fun b40 w38 hH39 => RL.app rfl hH39 (i := 2) rfl (Hp.slFlat valL_len hH39 (i := 0) (l := [⟨f, e⟩]) rfl (by simp [maxLen])) rfl rfl underlying54 rfl rfl (size := 9) (bytes := 80) rfl rfl rfl (by decide) (vals_one _) (by simp only [List.length_cons, List.length_nil]; omega) (by simp only [maxLen, List.length_cons, List.length_nil]; omega) <| fun v41 w42 hH43 => ?_
     simp only [z2] at hH43
     refine V (run_assign (by conv => lhs; whnf)) ?_
     refine RL.nil <| SR <| va (v := B true) rfl <| RL.nil <| SR <| vm e9_13 <| RL.nil <| CW.condF (bR (c := false) h19) <| CW.skip <| CW.region <| ?_
     refine V (run_move (by conv => lhs; whnf)) ?_
     refine vm e0_13 <| vm e11_13 <| V (run_indexAddrS (hs.hp hH43) underlying54 sizeOf56 rfl rfl (by omega)) <| V (run_ldE (dv := val0) valL_len (hs.hp hH43) underlying56 rfl rfl rfl (by omega)) <| RL.new rfl hH43 (f := fun b => (.slice (some ⟨b, 0, none⟩) 1 1)) (run_mkRecs valL_len underlying54 rfl rfl rfl (l := [(l.getD k.toNat val0)]) rfl (by decide) (by decide) rfl) <| fun b46 w44 hH45 => RL.app rfl hH45 (i := 3) rfl (Hp.slFlat valL_len hH45 (i := 0) (l := [(l.getD k.toNat val0)]) rfl (by simp [maxLen])) rfl rfl underlying54 rfl rfl (size := 9) (bytes := 80) rfl rfl rfl (by decide) (vals_one _) (by simp only [List.length_cons, List.length_nil]; omega) (by simp only [maxLen, List.length_cons, List.length_nil]; omega) <| fun v47 w48 hH49 => ?_
     simp only [z2] at hH49
     refine V (run_assign (by conv => lhs; whnf)) ?_
     refine RL.nil <| CW.region <| vm e11_13 <| V (run_add rfl rfl (by omega)) <| aI rfl <| RL.nil <| ?_
     refine ⟨(k + 1, true, m ++ [⟨f, e⟩] ++ [(l.getD k.toNat val0)], v47), ?_, fr13.u4.u4.u4.u4.u4.u4.u4.u4.u4.u4.u4.u4.u1.u1.u1, (Hp.conv (hH49.sub (sQ (sQ sR))) (by simp)), rfl, rfl, (congrArg I (by rfl)), ?_, ?_, ?_, ?_, ?_⟩
     ·((try dsimp only); omega)
     ·omega
     ·omega
     ·exact (w_2 h0 ‹k < _› hm hd ‹(!dn) = true› ‹(getF l f).2 = false› ‹lessT f (List.getD l k.toNat val0).name = true›).1
     ·exact (w_2 h0 ‹k < _› hm hd ‹(!dn) = true› ‹(getF l f).2 = false› ‹lessT f (List.getD l k.toNat val0).name = true›).2
     ·(rw [(w_2 h0 ‹k < _› hm hd ‹(!dn) = true› ‹(getF l f).2 = false› ‹lessT f (List.getD l k.toNat val0).name = true›).1]; exact wTo_le (by omega))
    ·refine CW.skip <| CW.region <| vm e7_13 <| vm e0_13 <| vm e11_13 <| V (run_indexAddrS (hs.hp hH35) underlying54 sizeOf56 rfl rfl (by omega)) <| V (run_ldE (dv := val0) valL_len (hs.hp hH35) underlying56 rfl rfl rfl (by omega)) <| RL.new rfl hH35 (f := fun b => (.slice (some ⟨b, 0, none⟩) 1 1)) (run_mkRecs valL_len underlying54 rfl rfl rfl (l := [(l.getD k.toNat val0)]) rfl (by decide) (by decide) rfl) <| fun b52 w50 hH51 => RL.app rfl hH51 (i := 2) rfl (Hp.slFlat valL_len hH51 (i := 0) (l := [(l.getD k.toNat val0)]) rfl (by simp [maxLen])) rfl rfl underlying54 rfl rfl (size := 9) (bytes := 80) rfl rfl rfl (by decide) (vals_one _) (by simp only [List.length_cons, List.length_nil]; omega) (by simp only [maxLen, List.length_cons, List.length_nil]; omega) <| fun v53 w54 hH55 => ?_
     simp only [z2] at hH55
     refine V (run_assign (by conv => lhs; whnf)) ?_
     refine RL.nil <| CW.region <| vm e11_13 <| V (run_add rfl rfl (by omega)) <| aI rfl <| RL.nil <| ?_
     refine ⟨(k + 1, dn, m ++ [(l.getD k.toNat val0)], v53), ?_, fr13.u4.u4.u4.u4.u4.u4.u4.u4.u4.u4.u1.u1, (Hp.conv (hH55.sub (sQ sR)) (by simp)), rfl, e10_13, (congrArg I (by rfl)), ?_, ?_, ?_, ?_, ?_⟩
     ·((try dsimp only); omega)
     ·omega
     ·omega
     ·exact (w_3 h0 ‹k < _› hm hd ‹(!dn) = true› (.inr ⟨‹(getF l f).2 = false›, ‹lessT f (List.getD l k.toNat val0).name = false›⟩)).1
     ·exact (w_3 h0 ‹k < _› hm hd ‹(!dn) = true› (.inr ⟨‹(getF l f).2 = false›, ‹lessT f (List.getD l k.toNat val0).name = false›⟩)).2
     ·(rw [(w_3 h0 ‹k < _› hm hd ‹(!dn) = true› (.inr ⟨‹(getF l f).2 = false›, ‹lessT f (List.getD l k.toNat val0).name = false›⟩)).1]; exact wTo_le (by omega))
  ·refine gF rfl (bR (c := false) h18) <| gF rfl (bR (c := false) h18) <| RL.gU rfl rfl rfl <| RL.gU rfl rfl rfl <| RL.gU rfl rfl rfl <| RL.gU rfl rfl rfl <| RL.gU rfl rfl rfl <| RL.gU rfl rfl rfl <| RL.gU rfl rfl rfl <| gF rfl (bR (c := false) h18) <| gF rfl (bR (c := false) h18) <| RL.gU rfl rfl rfl <| RL.gU rfl rfl rfl <| RL.gU rfl rfl rfl <| RL.gU rfl rfl rfl <| RL.gU rfl rfl rfl <| RL.gU rfl rfl rfl <| RL.gU rfl rfl rfl <| RL.gU rfl rfl rfl <| RL.gU rfl rfl rfl <| RL.gU rfl rfl rfl <| RL.gU rfl rfl rfl <| gF rfl (bR (c := false) h18) <| V (run_pickF (bR (c := false) h18) (v := B false) rfl) <| RL.nil <| CW.condF rfl <| CW.skip <| CW.region <| vm e7_13 <| vm e0_13 <| vm e11_13 <| V (run_indexAddrS (hs.hp hH13) underlying54 sizeOf56 rfl rfl (by omega)) <| V (run_ldE (dv := val0) valL_len (hs.hp hH13) underlying56 rfl rfl rfl (by omega)) <| RL.new rfl hH13 (f := fun b => (.slice (some ⟨b, 0, none⟩) 1 1)) (run_mkRecs valL_len underlying54 rfl rfl rfl (l := [(l.getD k.toNat val0)]) rfl (by decide) (by decide) rfl) <| fun b58 w56 hH57 => RL.app rfl hH57 (i := 2) rfl (Hp.slFlat valL_len hH57 (i := 0) (l := [(l.getD k.toNat val0)]) rfl (by simp [maxLen])) rfl rfl underlying54 rfl rfl (size := 9) (bytes := 80) rfl rfl rfl (by decide) (vals_one _) (by simp only [List.length_cons, List.length_nil]; omega) (by simp only [maxLen, List.length_cons, List.length_nil]; omega) <| fun v59 w60 hH61 => ?_
   simp only [z2] at hH61
   refine V (run_assign (by conv => lhs; whnf)) ?_
   refine RL.nil <| CW.region <| vm e11_13 <| V (run_add rfl rfl (by omega)) <| aI rfl <| RL.nil <| ?_
   refine ⟨(k + 1, dn, m ++ [(l.getD k.toNat val0)], v59), ?_, fr13.u4.u4.u4.u4.u4.u4.u4.u4.u4.u4.u1.u1, (Hp.conv (hH61.sub (sQ sR)) (by simp)), rfl, e10_13, (congrArg I (by rfl)), ?_, ?_, ?_, ?_, ?_⟩
   ·((try dsimp only); omega)
   ·omega
   ·omega
   ·exact (w_4 h0 ‹k < _› hm hd ‹(!dn) = false›).1
   ·exact (w_4 h0 ‹k < _› hm hd ‹(!dn) = false›).2
   ·(rw [(w_4 h0 ‹k < _› hm hd ‹(!dn) = false›).1]; exact wTo_le (by omega))
 ·refine CW.exit (id := 0) rfl <| CW.seq <| SR <| vm e10_13 <| V (run_not rfl) <| RL.nil <| CW.cond rfl (fun h63 => ?_) (fun h63 => ?_)
  ·refine CW.region <| vm e7_13 <| vm e1_13 <| V (run_ldEl underlying39 rfl rfl e5_13 (hH13.blk (i := 2) rfl)) <| V (run_bld (vs := [(0, S _), (1, .agg (elC _))]) rfl (built_val _ _)) <| RL.new rfl hH13 (f := fun b => (.slice (some ⟨b, 0, none⟩) 1 1)) (run_mkRecs valL_len underlying54 rfl rfl rfl (l := [⟨f, e⟩]) rfl (by decide) (by decide) rfl) <| fun b66 w64 hH65 => RL.app rfl hH65 (i := 2) rfl (Hp.slFlat valL_len hH65 (i := 0) (l := [⟨f, e⟩]) rfl (by simp [maxLen])) rfl rfl underlying54 rfl rfl (size := 9) (bytes := 80) rfl rfl rfl (by decide) (vals_one _) (by simp only [List.length_cons, List.length_nil]; omega) (by simp only [maxLen, List.length_cons, List.length_nil]; omega) <| fun v67 w68 hH69 => ?_
   simp only [z2] at hH69
   refine V (run_assign (by conv => lhs; whnf)) ?_
   refine RL.nil <| SR <| ?_
   refine V (run_move (by conv => lhs; whnf)) ?_
   refine V (run_assign (by conv => lhs; whnf)) ?_
   refine RL.nil <| CW.ret <| outR Tryz.results47 rfl hH69 (i := 2) rfl ((by rw [← w_e1 h0 hk ‹¬ k < _› hm hd ‹(!dn) = true›]; ((simp; done)))) ((by rw [← w_e1 h0 hk ‹¬ k < _› hm hd ‹(!dn) = true›]; ((simp; done))))
  ·refine CW.skip <| SR <| vm e7_13 <| ?_
   refine V (run_assign (by conv => lhs; whnf)) ?_
   refine RL.nil <| CW.ret <| outR Tryz.results47 rfl hH13 (i := 1) rfl ((by rw [← w_e2 (f := f) (e := e) h0 hk ‹¬ k < _› hm ‹(!dn) = false›]; done)) ((by rw [← w_e2 (f := f) (e := e) h0 hk ‹¬ k < _› hm ‹(!dn) = false›]; done))
theorem c_code_Right (v : Value) (l : List InsR) (w : World) (hs : Sl w v 10 l.length (l.flatMap insL)) : Calls Tryz.prog 44 #[v] w (Pure (B (rightC l)) w) := by
 have hm := hs.small
 unfold maxLen at hm
 refine enter Tryz.func44 rfl Tryz.ntmps44 rfl <| have hH := Hp.start w; SR <| va (v := B false) rfl <| RL.nil <| SR <| va (v := I 0) rfl <| RL.nil <| CW.seq <| SR <| ?_
 refine V (run_move (by conv => lhs; whnf)) ?_
 refine V (run_lenSl (hs.hp hH) rfl underlying36 rfl) <| vm (v := I 0) rfl <| RL.nil <| CW.block <| CW.loop (G := Int × Int) (fun ⟨k, d⟩ s' w' => (Fr (2 :: 3 :: (5 :: (rg 8 29 []))) _ s') ∧ (Hp w w' _) ∧ (s' 3 = I d) ∧ (s' 8 = I k) ∧ (0 ≤ k) ∧ (k ≤ l.length) ∧ (deepTo l k = some d)) (fun ⟨k, d⟩ => (l.length - k).toNat) ((0, 0)) ⟨Fr.refl _ _, hH, rfl, rfl, (by omega), (by omega), deep_zero l⟩ <| ?_
 rintro ⟨k, d⟩ sg1 w1 ⟨fr1, hH1, e3_1, e8_1, h0, hk, hd⟩
 have e6_1 := (fr1 6 rfl).trans (by conv => lhs; whnf)
 have e7_1 := fr1.ii 7 rfl rfl
 have hdb := deep_bd h0 hk hd
 refine SR <| V (run_lss e8_1 e7_1) <| RL.nil <| CW.seq <| CW.condP rfl (fun h3 => ?_) (fun h3 => ?_)
 ·refine CW.skip <| CW.seq <| CW.block <| SR <| V (run_indexAddrS (hs.hp hH1) underlying36 sizeOf91 e6_1 e8_1 (by omega)) <| V (run_ldE (dv := ins0) insL_len (hs.hp hH1) underlying91 rfl rfl rfl (by omega)) <| RL.new rfl hH1 (f := fun b => (.pointer (some ⟨b, 0, none⟩))) (run_alloc zero_ins) <| fun b6 w4 hH5 => RL.set hH5 (i := 0) rfl (run_stW (c' := (insL _).toArray) rfl rfl rfl (insL_one _) (hH5.blk (i := 0) rfl) rfl) <| fun w7 hH8 => ?_
  simp only [z2] at hH8
  refine RL.nil <| SR <| V (fA underlying91 0 rfl sizeOf3 rfl) <| V (run_ld underlying3 rfl rfl (hH8.cell (i := 0) rfl (v := I _) rfl)) <| RL.nil <| CW.block <| CW.seq <| SR <| V (run_eql rfl rfl) <| aB rfl <| RL.nil <| CW.condP rfl (fun h10 => ?_) (fun h10 => ?_)
  ·refine CW.skip <| CW.condT (bT h10) <| CW.region <| vm e3_1 <| V (run_add rfl rfl (by omega)) <| aI rfl <| RL.nil <| CW.region <| V (run_add e8_1 rfl (by omega)) <| mI rfl <| RL.nil <| ?_
   refine ⟨(k + 1, d + 1), ?_, fr1.u4.u4.u4.u1, (hH8.sub (sQ sR)), (congrArg I (by rfl)), (congrArg I (by rfl)), ?_, ?_, ?_⟩
   ·((try dsimp only); omega)
   ·omega
   ·omega
   ·rw [deep_next h0 ‹k < _›, hd]; exact st_push (.inl ‹_›)
  ·refine CW.region <| V (run_eql rfl rfl) <| aB rfl <| RL.nil <| CW.condP rfl (fun h12 => ?_) (fun h12 => ?_)
   ·refine CW.region <| vm e3_1 <| V (run_add rfl rfl (by omega)) <| aI rfl <| RL.nil <| CW.region <| V (run_add e8_1 rfl (by omega)) <| mI rfl <| RL.nil <| ?_
    refine ⟨(k + 1, d + 1), ?_, fr1.u4.u4.u4.u1.u1.u1, (hH8.sub (sQ sR)), (congrArg I (by rfl)), (congrArg I (by rfl)), ?_, ?_, ?_⟩
    ·((try dsimp only); omega)
    ·omega
    ·omega
    ·rw [deep_next h0 ‹k < _›, hd]; exact st_push (.inr ‹_›)
   ·refine CW.seq <| SR <| V (run_eql rfl rfl) <| aB rfl <| RL.nil <| CW.condP rfl (fun h14 => ?_) (fun h14 => ?_)
    ·refine CW.skip <| CW.condT (bT h14) <| CW.seq <| SR <| V (fA underlying91 1 rfl sizeOf3 rfl) <| V (run_ld underlying3 rfl rfl (hH8.cell (i := 0) rfl (v := I _) rfl)) <| V (run_lss rfl rfl) <| mB rfl <| RL.splitP (dj := 25) rfl (fun h16 => ?_) (fun h16 => ?_)
     ·refine gF rfl (bT h16) <| gF rfl (bT h16) <| gF rfl (bT h16) <| gF rfl (bT h16) <| V (run_pickT (bT h16) (v := B true) rfl) <| RL.nil <| CW.condT rfl <| SR <| va (v := B false) rfl <| RL.nil <| CW.ret <| outP1 Tryz.results44 (congrArg B ?_) hH8.below
      exact (rc_no h0 ‹k < _› hd (st_bad (by omega) (by omega))).symm
     ·refine gT rfl (bF h16) <| V (fA underlying91 1 rfl sizeOf3 rfl) <| gT rfl (bF h16) <| V (run_ld underlying3 rfl rfl (hH8.cell (i := 0) rfl (v := I _) rfl)) <| gT rfl (bF h16) <| vm e3_1 <| gT rfl (bF h16) <| V (run_gtr rfl rfl) <| V (run_pickF (bF h16) (v := B _) rfl) <| RL.nil <| CW.condP rfl (fun h18 => ?_) (fun h18 => ?_)
      ·refine SR <| va (v := B false) rfl <| RL.nil <| CW.ret <| outP1 Tryz.results44 (congrArg B ?_) hH8.below
       exact (rc_no h0 ‹k < _› hd (st_bad (by omega) (by omega))).symm
      ·refine CW.skip <| CW.region <| vm e3_1 <| V (fA underlying91 1 rfl sizeOf3 rfl) <| V (run_ld underlying3 rfl rfl (hH8.cell (i := 0) rfl (v := I _) rfl)) <| V (run_sub rfl rfl (by omega)) <| V (run_sub rfl rfl (by omega)) <| aI rfl <| RL.nil <| CW.region <| V (run_add e8_1 rfl (by omega)) <| mI rfl <| RL.nil <| ?_
       refine ⟨(k + 1, d - (l.getD k.toNat ins0).n + 1), ?_, fr1.u4.u4.u4.u4.u4.u4.u4.u1, (hH8.sub (sQ sR)), (congrArg I (by omega)), (congrArg I (by rfl)), ?_, ?_, ?_⟩
       ·((try dsimp only); omega)
       ·omega
       ·omega
       ·rw [deep_next h0 ‹k < _›, hd]; exact st_pop (by omega) (by omega) (by omega)
    ·refine CW.region <| V (run_eql rfl rfl) <| aB rfl <| RL.nil <| CW.condP rfl (fun h20 => ?_) (fun h20 => ?_)
     ·refine CW.seq <| SR <| V (fA underlying91 1 rfl sizeOf3 rfl) <| V (run_ld underlying3 rfl rfl (hH8.cell (i := 0) rfl (v := I _) rfl)) <| V (run_lss rfl rfl) <| mB rfl <| RL.splitP (dj := 25) rfl (fun h22 => ?_) (fun h22 => ?_)
      ·refine gF rfl (bT h22) <| gF rfl (bT h22) <| gF rfl (bT h22) <| gF rfl (bT h22) <| V (run_pickT (bT h22) (v := B true) rfl) <| RL.nil <| CW.condT rfl <| SR <| va (v := B false) rfl <| RL.nil <| CW.ret <| outP1 Tryz.results44 (congrArg B ?_) hH8.below
       exact (rc_no h0 ‹k < _› hd (st_bad (by omega) (by omega))).symm
      ·refine gT rfl (bF h22) <| V (fA underlying91 1 rfl sizeOf3 rfl) <| gT rfl (bF h22) <| V (run_ld underlying3 rfl rfl (hH8.cell (i := 0) rfl (v := I _) rfl)) <| gT rfl (bF h22) <| vm e3_1 <| gT rfl (bF h22) <| V (run_gtr rfl rfl) <| V (run_pickF (bF h22) (v := B _) rfl) <| RL.nil <| CW.condP rfl (fun h24 => ?_) (fun h24 => ?_)
       ·refine SR <| va (v := B false) rfl <| RL.nil <| CW.ret <| outP1 Tryz.results44 (congrArg B ?_) hH8.below
        exact (rc_no h0 ‹k < _› hd (st_bad (by omega) (by omega))).symm
       ·refine CW.skip <| CW.region <| vm e3_1 <| V (fA underlying91 1 rfl sizeOf3 rfl) <| V (run_ld underlying3 rfl rfl (hH8.cell (i := 0) rfl (v := I _) rfl)) <| V (run_sub rfl rfl (by omega)) <| V (run_sub rfl rfl (by omega)) <| aI rfl <| RL.nil <| CW.region <| V (run_add e8_1 rfl (by omega)) <| mI rfl <| RL.nil <| ?_
        refine ⟨(k + 1, d - (l.getD k.toNat ins0).n + 1), ?_, fr1.u4.u4.u4.u4.u4.u4.u4.u1.u1.u1, (hH8.sub (sQ sR)), (congrArg I (by omega)), (congrArg I (by rfl)), ?_, ?_, ?_⟩
        ·((try dsimp only); omega)
        ·omega
        ·omega
        ·rw [deep_next h0 ‹k < _›, hd]; exact st_pop (by omega) (by omega) (by omega)
     ·refine SR <| va (v := B false) rfl <| RL.nil <| CW.ret <| outP1 Tryz.results44 (congrArg B ?_) hH8.below
      exact (rc_no h0 ‹k < _› hd (st_none (by omega) (by omega))).symm
 ·refine CW.exit (id := 0) rfl <| SR <| vm e3_1 <| V (run_eql rfl rfl) <| aB rfl <| RL.nil <| CW.ret <| outP1 Tryz.results44 (congrArg B ?_) hH1.below
  exact (rc_end hk ‹¬ k < _› hd).symm
theorem c_clearanceref14_Right (v : Value) (l : List InsR) (w : World) (hs : Sl w v 10 l.length (l.flatMap insL)) : Calls Tryz.prog 48 #[v] w (Pure (B (rightC l)) w) := by
 have hm := hs.small
 unfold maxLen at hm
 refine enter Tryz.func48 rfl Tryz.ntmps48 rfl <| have hH := Hp.start w; SR <| va (v := B false) rfl <| RL.nil <| SR <| va (v := I 0) rfl <| RL.nil <| CW.seq <| SR <| va (v := I 0) rfl <| RL.nil <| CW.block <| CW.loop (G := Int × Int) (fun ⟨k, d⟩ s' w' => (Fr (rg 2 45 []) _ s') ∧ (Hp w w' _) ∧ (s' 3 = I d) ∧ (s' 4 = I k) ∧ (0 ≤ k) ∧ (k ≤ l.length) ∧ (deepTo l k = some d)) (fun ⟨k, d⟩ => (l.length - k).toNat) ((0, 0)) ⟨Fr.refl _ _, hH, rfl, rfl, (by omega), (by omega), deep_zero l⟩ <| ?_
 rintro ⟨k, d⟩ sg1 w1 ⟨fr1, hH1, e3_1, e4_1, h0, hk, hd⟩
 have e0_1 := (fr1 0 rfl).trans (by conv => lhs; whnf)
 have hdb := deep_bd h0 hk hd
 refine CW.seq <| SR <| vm e4_1 <| vm e0_1 <| V (run_lenSl (hs.hp hH1) rfl underlying36 rfl) <| V (run_lss rfl rfl) <| RL.nil <| CW.condP rfl (fun h3 => ?_) (fun h3 => ?_)
 ·refine CW.skip <| CW.seq <| CW.block <| SR <| vm e0_1 <| vm e4_1 <| V (run_indexAddrS (hs.hp hH1) underlying36 sizeOf91 rfl rfl (by omega)) <| V (fA underlying91 0 rfl sizeOf3 rfl) <| V (run_ldE1 (dv := ins0) (off := 0) insL_len (hs.hp hH1) underlying3 rfl rfl (by omega) rfl) <| RL.nil <| CW.block <| CW.seq <| SR <| V (run_eql rfl rfl) <| aB rfl <| RL.nil <| CW.condP rfl (fun h5 => ?_) (fun h5 => ?_)
  ·refine CW.skip <| CW.condT (bT h5) <| CW.region <| vm e3_1 <| V (run_add rfl rfl (by omega)) <| aI rfl <| RL.nil <| CW.region <| vm e4_1 <| V (run_add rfl rfl (by omega)) <| aI rfl <| RL.nil <| ?_
   refine ⟨(k + 1, d + 1), ?_, fr1.u4.u4.u4.u4.u1, hH1, (congrArg I (by rfl)), (congrArg I (by rfl)), ?_, ?_, ?_⟩
   ·((try dsimp only); omega)
   ·omega
   ·omega
   ·rw [deep_next h0 ‹k < _›, hd]; exact st_push (.inl ‹_›)
  ·refine CW.region <| V (run_eql rfl rfl) <| aB rfl <| RL.nil <| CW.condP rfl (fun h7 => ?_) (fun h7 => ?_)
   ·refine CW.region <| vm e3_1 <| V (run_add rfl rfl (by omega)) <| aI rfl <| RL.nil <| CW.region <| vm e4_1 <| V (run_add rfl rfl (by omega)) <| aI rfl <| RL.nil <| ?_
    refine ⟨(k + 1, d + 1), ?_, fr1.u4.u4.u4.u4.u1.u1.u1, hH1, (congrArg I (by rfl)), (congrArg I (by rfl)), ?_, ?_, ?_⟩
    ·((try dsimp only); omega)
    ·omega
    ·omega
    ·rw [deep_next h0 ‹k < _›, hd]; exact st_push (.inr ‹_›)
   ·refine CW.seq <| SR <| V (run_eql rfl rfl) <| aB rfl <| RL.nil <| CW.condP rfl (fun h9 => ?_) (fun h9 => ?_)
    ·refine CW.skip <| CW.condT (bT h9) <| CW.seq <| SR <| vm e0_1 <| vm e4_1 <| V (run_indexAddrS (hs.hp hH1) underlying36 sizeOf91 rfl rfl (by omega)) <| V (fA underlying91 1 rfl sizeOf3 rfl) <| V (run_ldE1 (dv := ins0) (off := 1) insL_len (hs.hp hH1) underlying3 rfl rfl (by omega) rfl) <| V (run_lss rfl rfl) <| mB rfl <| RL.splitP (dj := 30) rfl (fun h11 => ?_) (fun h11 => ?_)
     ·refine gF rfl (bT h11) <| gF rfl (bT h11) <| gF rfl (bT h11) <| gF rfl (bT h11) <| gF rfl (bT h11) <| gF rfl (bT h11) <| gF rfl (bT h11) <| V (run_pickT (bT h11) (v := B true) rfl) <| RL.nil <| CW.condT rfl <| SR <| va (v := B false) rfl <| RL.nil <| CW.ret <| outP1 Tryz.results48 (congrArg B ?_) hH1.below
      exact (rc_no h0 ‹k < _› hd (st_bad (by omega) (by omega))).symm
     ·refine gT rfl (bF h11) <| vm e0_1 <| gT rfl (bF h11) <| vm e4_1 <| gT rfl (bF h11) <| V (run_indexAddrS (hs.hp hH1) underlying36 sizeOf91 rfl rfl (by omega)) <| gT rfl (bF h11) <| V (fA underlying91 1 rfl sizeOf3 rfl) <| gT rfl (bF h11) <| V (run_ldE1 (dv := ins0) (off := 1) insL_len (hs.hp hH1) underlying3 rfl rfl (by omega) rfl) <| gT rfl (bF h11) <| vm e3_1 <| gT rfl (bF h11) <| V (run_gtr rfl rfl) <| V (run_pickF (bF h11) (v := B _) rfl) <| RL.nil <| CW.condP rfl (fun h13 => ?_) (fun h13 => ?_)
      ·refine SR <| va (v := B false) rfl <| RL.nil <| CW.ret <| outP1 Tryz.results48 (congrArg B ?_) hH1.below
       exact (rc_no h0 ‹k < _› hd (st_bad (by omega) (by omega))).symm
      ·refine CW.skip <| CW.region <| vm e3_1 <| vm e0_1 <| vm e4_1 <| V (run_indexAddrS (hs.hp hH1) underlying36 sizeOf91 rfl rfl (by omega)) <| V (fA underlying91 1 rfl sizeOf3 rfl) <| V (run_ldE1 (dv := ins0) (off := 1) insL_len (hs.hp hH1) underlying3 rfl rfl (by omega) rfl) <| V (run_sub rfl rfl (by omega)) <| V (run_add rfl rfl (by omega)) <| aI rfl <| RL.nil <| CW.region <| vm e4_1 <| V (run_add rfl rfl (by omega)) <| aI rfl <| RL.nil <| ?_
       refine ⟨(k + 1, d - (l.getD k.toNat ins0).n + 1), ?_, fr1.u4.u4.u4.u4.u4.u4.u4.u4.u4.u4.u1.u1, hH1, (congrArg I (by rfl)), (congrArg I (by rfl)), ?_, ?_, ?_⟩
       ·((try dsimp only); omega)
       ·omega
       ·omega
       ·rw [deep_next h0 ‹k < _›, hd]; exact st_pop (by omega) (by omega) (by omega)
    ·refine CW.region <| V (run_eql rfl rfl) <| aB rfl <| RL.nil <| CW.condP rfl (fun h15 => ?_) (fun h15 => ?_)
     ·refine CW.seq <| SR <| vm e0_1 <| vm e4_1 <| V (run_indexAddrS (hs.hp hH1) underlying36 sizeOf91 rfl rfl (by omega)) <| V (fA underlying91 1 rfl sizeOf3 rfl) <| V (run_ldE1 (dv := ins0) (off := 1) insL_len (hs.hp hH1) underlying3 rfl rfl (by omega) rfl) <| V (run_lss rfl rfl) <| mB rfl <| RL.splitP (dj := 30) rfl (fun h17 => ?_) (fun h17 => ?_)
      ·refine gF rfl (bT h17) <| gF rfl (bT h17) <| gF rfl (bT h17) <| gF rfl (bT h17) <| gF rfl (bT h17) <| gF rfl (bT h17) <| gF rfl (bT h17) <| V (run_pickT (bT h17) (v := B true) rfl) <| RL.nil <| CW.condT rfl <| SR <| va (v := B false) rfl <| RL.nil <| CW.ret <| outP1 Tryz.results48 (congrArg B ?_) hH1.below
       exact (rc_no h0 ‹k < _› hd (st_bad (by omega) (by omega))).symm
      ·refine gT rfl (bF h17) <| vm e0_1 <| gT rfl (bF h17) <| vm e4_1 <| gT rfl (bF h17) <| V (run_indexAddrS (hs.hp hH1) underlying36 sizeOf91 rfl rfl (by omega)) <| gT rfl (bF h17) <| V (fA underlying91 1 rfl sizeOf3 rfl) <| gT rfl (bF h17) <| V (run_ldE1 (dv := ins0) (off := 1) insL_len (hs.hp hH1) underlying3 rfl rfl (by omega) rfl) <| gT rfl (bF h17) <| vm e3_1 <| gT rfl (bF h17) <| V (run_gtr rfl rfl) <| V (run_pickF (bF h17) (v := B _) rfl) <| RL.nil <| CW.condP rfl (fun h19 => ?_) (fun h19 => ?_)
       ·refine SR <| va (v := B false) rfl <| RL.nil <| CW.ret <| outP1 Tryz.results48 (congrArg B ?_) hH1.below
        exact (rc_no h0 ‹k < _› hd (st_bad (by omega) (by omega))).symm
       ·refine CW.skip <| CW.region <| vm e3_1 <| vm e0_1 <| vm e4_1 <| V (run_indexAddrS (hs.hp hH1) underlying36 sizeOf91 rfl rfl (by omega)) <| V (fA underlying91 1 rfl sizeOf3 rfl) <| V (run_ldE1 (dv := ins0) (off := 1) insL_len (hs.hp hH1) underlying3 rfl rfl (by omega) rfl) <| V (run_sub rfl rfl (by omega)) <| V (run_add rfl rfl (by omega)) <| aI rfl <| RL.nil <| CW.region <| vm e4_1 <| V (run_add rfl rfl (by omega)) <| aI rfl <| RL.nil <| ?_
        refine ⟨(k + 1, d - (l.getD k.toNat ins0).n + 1), ?_, fr1.u4.u4.u4.u4.u4.u4.u4.u4.u4.u4.u4, hH1, (congrArg I (by rfl)), (congrArg I (by rfl)), ?_, ?_, ?_⟩
        ·((try dsimp only); omega)
        ·omega
        ·omega
        ·rw [deep_next h0 ‹k < _›, hd]; exact st_pop (by omega) (by omega) (by omega)
     ·refine SR <| va (v := B false) rfl <| RL.nil <| CW.ret <| outP1 Tryz.results48 (congrArg B ?_) hH1.below
      exact (rc_no h0 ‹k < _› hd (st_none (by omega) (by omega))).symm
 ·refine CW.exit (id := 0) rfl <| SR <| vm e3_1 <| V (run_eql rfl rfl) <| aB rfl <| RL.nil <| CW.ret <| outP1 Tryz.results48 (congrArg B ?_) hH1.below
  exact (rc_end hk ‹¬ k < _› hd).symm
theorem c_holds_atom (t : AtomR) (a : Asg) (w : World) (ha : AsgV (Kw w) a) : Calls Tryz.prog 23 #[.agg (atomL t).toArray, .agg (asgL a).toArray] w (Pure (.tuple #[.agg (elC (atomF a.as t).1), B (atomF a.as t).2]) w) := by
 have hm1 := ha.labels.small
 have hm2 := ha.rows.small
 unfold maxLen at hm1 hm2
 refine enter Tryz.func23 rfl Tryz.ntmps23 rfl <| have hH := Hp.start w; SR <| RL.new rfl hH (f := fun b => (.pointer (some ⟨b, 0, none⟩))) (run_box (v := .agg _) rfl) <| fun b3 w1 hH2 => RL.new rfl hH2 (f := fun b => (.pointer (some ⟨b, 0, none⟩))) (run_box (v := .agg _) rfl) <| fun b6 w4 hH5 => RL.new rfl hH5 (f := fun b => (.pointer (some ⟨b, 0, none⟩))) (run_alloc zero_el) <| fun b9 w7 hH8 => va (v := B false) rfl <| RL.nil <| CW.seq <| SR <| V (fA underlying41 0 rfl sizeOf3 rfl) <| V (run_ld underlying3 rfl rfl (hH8.cell (i := 2) rfl (v := I _) rfl)) <| V (run_lss rfl rfl) <| RL.nil <| CW.condP rfl (fun h11 => ?_) (fun h11 => ?_)
 ·refine SR <| V (fA underlying41 1 rfl sizeOf39 rfl) <| V (run_ldElR underlying39 rfl rfl rfl (hH8.blk (i := 2) rfl) (atom_elB _)) <| RL.set hH8 (i := 0) rfl (run_stEl rfl rfl rfl (hH8.blk (i := 0) rfl)) <| fun w12 hH13 => ?_
  simp only [z2] at hH13
  refine va (v := B true) rfl <| RL.nil <| CW.ret <| outCT Tryz.results23 rfl rfl hH13 (i := 0) rfl underlying39 rfl (by rw [elC_size]; rfl) ⟨?_, hH13.below⟩
  (rw [atm_1 ‹t.var < 0›]; rfl)
 ·refine CW.skip <| CW.seq <| SR <| V (fA underlying41 0 rfl sizeOf3 rfl) <| V (run_ld underlying3 rfl rfl (hH8.cell (i := 2) rfl (v := I _) rfl)) <| V (fA underlying32 0 rfl sizeOf29 rfl) <| V (run_ldV (ha.labels.sl.hp hH8) underlying29 rfl rfl (hH8.cell (i := 1) rfl rfl)) <| V (run_lenSl (ha.labels.sl.hp hH8) rfl underlying29 rfl) <| V (run_geq rfl rfl) <| RL.nil <| CW.condP rfl (fun h15 => ?_) (fun h15 => ?_)
  ·refine SR <| V (run_bld (vs := []) rfl (built_el0)) <| RL.set hH8 (i := 0) rfl (run_stEl rfl rfl rfl (hH8.blk (i := 0) rfl)) <| fun w16 hH17 => ?_
   simp only [z2] at hH17
   refine va (v := B false) rfl <| RL.nil <| CW.ret <| outCT Tryz.results23 rfl rfl hH17 (i := 0) rfl underlying39 rfl (by rw [elC_size]; rfl) ⟨?_, hH17.below⟩
   (rw [atm_3 ‹¬ t.var < 0› (show ¬ t.var < a.as.labels.length by show ¬ t.var < a.labels.length; omega)]; rfl)
  ·refine CW.skip <| SR <| V (fA underlying32 0 rfl sizeOf29 rfl) <| V (run_ldV (ha.labels.sl.hp hH8) underlying29 rfl rfl (hH8.cell (i := 1) rfl rfl)) <| V (fA underlying41 0 rfl sizeOf3 rfl) <| V (run_ld underlying3 rfl rfl (hH8.cell (i := 2) rfl (v := I _) rfl)) <| V (run_indexAddrS (ha.labels.sl.hp hH8) underlying29 sizeOf39 rfl rfl (by omega)) <| V (run_ldElS (ha.labels.sl.hp hH8) underlying39 rfl rfl rfl (by omega)) <| RL.set hH8 (i := 0) rfl (run_stEl rfl rfl rfl (hH8.blk (i := 0) rfl)) <| fun w18 hH19 => ?_
   simp only [z2] at hH19
   refine va (v := B true) rfl <| RL.nil <| CW.ret <| outCT Tryz.results23 rfl rfl hH19 (i := 0) rfl underlying39 rfl (by rw [elC_size]; rfl) ⟨?_, hH19.below⟩
   (rw [atm_2 ‹¬ t.var < 0› (show t.var < a.as.labels.length by show t.var < a.labels.length; omega)]; rfl)
theorem c_clearanceref19_atom (t : AtomR) (a : Asg) (w : World) (ha : AsgV (Kw w) a) : Calls Tryz.prog 29 #[.agg (atomL t).toArray, .agg (asgL a).toArray] w (Pure (.tuple #[.agg (elC (atomF a.as t).1), B (atomF a.as t).2]) w) := by
 have hm1 := ha.labels.small
 have hm2 := ha.rows.small
 unfold maxLen at hm1 hm2
 refine enter Tryz.func29 rfl Tryz.ntmps29 rfl <| have hH := Hp.start w; SR <| RL.new rfl hH (f := fun b => (.pointer (some ⟨b, 0, none⟩))) (run_box (v := .agg _) rfl) <| fun b3 w1 hH2 => RL.new rfl hH2 (f := fun b => (.pointer (some ⟨b, 0, none⟩))) (run_box (v := .agg _) rfl) <| fun b6 w4 hH5 => RL.new rfl hH5 (f := fun b => (.pointer (some ⟨b, 0, none⟩))) (run_alloc zero_el) <| fun b9 w7 hH8 => va (v := B false) rfl <| RL.nil <| CW.seq <| SR <| V (fA underlying41 0 rfl sizeOf3 rfl) <| V (run_ld underlying3 rfl rfl (hH8.cell (i := 2) rfl (v := I _) rfl)) <| V (run_lss rfl rfl) <| RL.nil <| CW.condP rfl (fun h11 => ?_) (fun h11 => ?_)
 ·refine SR <| V (fA underlying41 1 rfl sizeOf39 rfl) <| V (run_ldElR underlying39 rfl rfl rfl (hH8.blk (i := 2) rfl) (atom_elB _)) <| RL.set hH8 (i := 0) rfl (run_stEl rfl rfl rfl (hH8.blk (i := 0) rfl)) <| fun w12 hH13 => ?_
  simp only [z2] at hH13
  refine va (v := B true) rfl <| RL.nil <| CW.ret <| outCT Tryz.results29 rfl rfl hH13 (i := 0) rfl underlying39 rfl (by rw [elC_size]; rfl) ⟨?_, hH13.below⟩
  (rw [atm_1 ‹t.var < 0›]; rfl)
 ·refine CW.skip <| CW.seq <| SR <| V (fA underlying41 0 rfl sizeOf3 rfl) <| V (run_ld underlying3 rfl rfl (hH8.cell (i := 2) rfl (v := I _) rfl)) <| V (fA underlying32 0 rfl sizeOf29 rfl) <| V (run_ldV (ha.labels.sl.hp hH8) underlying29 rfl rfl (hH8.cell (i := 1) rfl rfl)) <| V (run_lenSl (ha.labels.sl.hp hH8) rfl underlying29 rfl) <| V (run_geq rfl rfl) <| RL.nil <| CW.condP rfl (fun h15 => ?_) (fun h15 => ?_)
  ·refine SR <| V (run_bld (vs := []) rfl (built_el0)) <| RL.set hH8 (i := 0) rfl (run_stEl rfl rfl rfl (hH8.blk (i := 0) rfl)) <| fun w16 hH17 => ?_
   simp only [z2] at hH17
   refine va (v := B false) rfl <| RL.nil <| CW.ret <| outCT Tryz.results29 rfl rfl hH17 (i := 0) rfl underlying39 rfl (by rw [elC_size]; rfl) ⟨?_, hH17.below⟩
   (rw [atm_3 ‹¬ t.var < 0› (show ¬ t.var < a.as.labels.length by show ¬ t.var < a.labels.length; omega)]; rfl)
  ·refine CW.skip <| SR <| V (fA underlying32 0 rfl sizeOf29 rfl) <| V (run_ldV (ha.labels.sl.hp hH8) underlying29 rfl rfl (hH8.cell (i := 1) rfl rfl)) <| V (fA underlying41 0 rfl sizeOf3 rfl) <| V (run_ld underlying3 rfl rfl (hH8.cell (i := 2) rfl (v := I _) rfl)) <| V (run_indexAddrS (ha.labels.sl.hp hH8) underlying29 sizeOf39 rfl rfl (by omega)) <| V (run_ldElS (ha.labels.sl.hp hH8) underlying39 rfl rfl rfl (by omega)) <| RL.set hH8 (i := 0) rfl (run_stEl rfl rfl rfl (hH8.blk (i := 0) rfl)) <| fun w18 hH19 => ?_
   simp only [z2] at hH19
   refine va (v := B true) rfl <| RL.nil <| CW.ret <| outCT Tryz.results29 rfl rfl hH19 (i := 0) rfl underlying39 rfl (by rw [elC_size]; rfl) ⟨?_, hH19.below⟩
   (rw [atm_2 ‹¬ t.var < 0› (show t.var < a.as.labels.length by show t.var < a.labels.length; omega)]; rfl)
theorem c_fit_is (s : Scp) (v kd lat : Int) (w : World) (hs : ScpV (Kw w) s) : Calls Tryz.prog 57 #[.agg (scpC s), I v, I kd, I lat] w (Pure (B (kdOk s v kd lat)) w) := by
 have hm1 := hs.lats.sl.small
 have hm2 := hs.vars.sl.small
 unfold maxLen at hm1 hm2
 refine enter Tryz.func57 rfl Tryz.ntmps57 rfl <| have hH := Hp.start w; SR <| RL.new rfl hH (f := fun b => (.pointer (some ⟨b, 0, none⟩))) (run_box (v := .agg _) rfl) <| fun b3 w1 hH2 => va (v := B false) rfl <| RL.nil <| SR <| mI rfl <| V (run_geq rfl rfl) <| mB rfl <| RL.splitP (dj := 11) rfl (fun h5 => ?_) (fun h5 => ?_)
 ·refine gT rfl (bT h5) <| mI rfl <| gT rfl (bT h5) <| V (fA underlying25 1 rfl sizeOf23 rfl) <| gT rfl (bT h5) <| V (run_ldV (hs.vars.sl.hp hH2) underlying23 rfl rfl (hH2.cell (i := 0) rfl rfl)) <| gT rfl (bT h5) <| V (run_lenSl (hs.vars.sl.hp hH2) rfl underlying23 rfl) <| gT rfl (bT h5) <| V (run_lss rfl rfl) <| V (run_pickT (bT h5) (v := B _) rfl) <| mB rfl <| RL.splitP (dj := 18) rfl (fun h7 => ?_) (fun h7 => ?_)
  ·refine gT rfl (bT h7) <| V (fA underlying25 1 rfl sizeOf23 rfl) <| gT rfl (bT h7) <| V (run_ldV (hs.vars.sl.hp hH2) underlying23 rfl rfl (hH2.cell (i := 0) rfl rfl)) <| gT rfl (bT h7) <| mI rfl <| gT rfl (bT h7) <| V (run_indexAddrS (hs.vars.sl.hp hH2) underlying23 sizeOf69 rfl rfl (by omega)) <| gT rfl (bT h7) <| V (fA underlying69 1 rfl sizeOf3 rfl) <| gT rfl (bT h7) <| V (run_ldE1 (dv := var0) (off := 1) varL_len (hs.vars.sl.hp hH2) underlying3 rfl rfl (by omega) rfl) <| gT rfl (bT h7) <| mI rfl <| gT rfl (bT h7) <| V (run_eql rfl rfl) <| V (run_pickT (bT h7) (v := B _) rfl) <| mB rfl <| RL.splitP (dj := 28) rfl (fun h9 => ?_) (fun h9 => ?_)
   ·refine gT rfl (bT h9) <| V (fA underlying25 1 rfl sizeOf23 rfl) <| gT rfl (bT h9) <| V (run_ldV (hs.vars.sl.hp hH2) underlying23 rfl rfl (hH2.cell (i := 0) rfl rfl)) <| gT rfl (bT h9) <| mI rfl <| gT rfl (bT h9) <| V (run_indexAddrS (hs.vars.sl.hp hH2) underlying23 sizeOf69 rfl rfl (by omega)) <| gT rfl (bT h9) <| V (fA underlying69 2 rfl sizeOf3 rfl) <| gT rfl (bT h9) <| V (run_ldE1 (dv := var0) (off := 2) varL_len (hs.vars.sl.hp hH2) underlying3 rfl rfl (by omega) rfl) <| gT rfl (bT h9) <| mI rfl <| gT rfl (bT h9) <| V (run_eql rfl rfl) <| V (run_pickT (bT h9) (v := B _) rfl) <| aB rfl <| RL.nil <| CW.ret <| outP1 Tryz.results57 (congrArg B ?_) hH2.below
    (rw [kind_yes ⟨by omega, by omega⟩ ‹(List.getD s.vars _ _).kind = kd›]; done)
   ·refine gF rfl (bF h9) <| gF rfl (bF h9) <| gF rfl (bF h9) <| gF rfl (bF h9) <| gF rfl (bF h9) <| gF rfl (bF h9) <| gF rfl (bF h9) <| gF rfl (bF h9) <| V (run_pickF (bF h9) (v := B false) rfl) <| aB rfl <| RL.nil <| CW.ret <| outP1 Tryz.results57 (congrArg B ?_) hH2.below
    (rw [kind_no2 ‹¬ (List.getD s.vars _ _).kind = kd›]; done)
  ·refine gF rfl (bF h7) <| gF rfl (bF h7) <| gF rfl (bF h7) <| gF rfl (bF h7) <| gF rfl (bF h7) <| gF rfl (bF h7) <| gF rfl (bF h7) <| gF rfl (bF h7) <| V (run_pickF (bF h7) (v := B false) rfl) <| mB rfl <| gF rfl rfl <| gF rfl rfl <| gF rfl rfl <| gF rfl rfl <| gF rfl rfl <| gF rfl rfl <| gF rfl rfl <| gF rfl rfl <| V (run_pickF rfl (v := B false) rfl) <| aB rfl <| RL.nil <| CW.ret <| outP1 Tryz.results57 (congrArg B ?_) hH2.below
   (rw [kind_no1 (by omega)]; done)
 ·refine gF rfl (bF h5) <| gF rfl (bF h5) <| gF rfl (bF h5) <| gF rfl (bF h5) <| gF rfl (bF h5) <| V (run_pickF (bF h5) (v := B false) rfl) <| mB rfl <| gF rfl rfl <| gF rfl rfl <| gF rfl rfl <| gF rfl rfl <| gF rfl rfl <| gF rfl rfl <| gF rfl rfl <| gF rfl rfl <| V (run_pickF rfl (v := B false) rfl) <| mB rfl <| gF rfl rfl <| gF rfl rfl <| gF rfl rfl <| gF rfl rfl <| gF rfl rfl <| gF rfl rfl <| gF rfl rfl <| gF rfl rfl <| V (run_pickF rfl (v := B false) rfl) <| aB rfl <| RL.nil <| CW.ret <| outP1 Tryz.results57 (congrArg B ?_) hH2.below
  (rw [kind_no1 (by omega)]; done)
theorem c_clearanceref15_Kind (s : Scp) (v kd lat : Int) (w : World) (hs : ScpV (Kw w) s) : Calls Tryz.prog 61 #[.agg (scpC s), I v, I kd, I lat] w (Pure (B (kdOk s v kd lat)) w) := by
 have hm1 := hs.lats.sl.small
 have hm2 := hs.vars.sl.small
 unfold maxLen at hm1 hm2
 refine enter Tryz.func61 rfl Tryz.ntmps61 rfl <| have hH := Hp.start w; SR <| RL.new rfl hH (f := fun b => (.pointer (some ⟨b, 0, none⟩))) (run_box (v := .agg _) rfl) <| fun b3 w1 hH2 => va (v := B false) rfl <| RL.nil <| SR <| mI rfl <| V (run_geq rfl rfl) <| mB rfl <| RL.splitP (dj := 11) rfl (fun h5 => ?_) (fun h5 => ?_)
 ·refine gT rfl (bT h5) <| mI rfl <| gT rfl (bT h5) <| V (fA underlying25 1 rfl sizeOf23 rfl) <| gT rfl (bT h5) <| V (run_ldV (hs.vars.sl.hp hH2) underlying23 rfl rfl (hH2.cell (i := 0) rfl rfl)) <| gT rfl (bT h5) <| V (run_lenSl (hs.vars.sl.hp hH2) rfl underlying23 rfl) <| gT rfl (bT h5) <| V (run_lss rfl rfl) <| V (run_pickT (bT h5) (v := B _) rfl) <| mB rfl <| RL.splitP (dj := 18) rfl (fun h7 => ?_) (fun h7 => ?_)
  ·refine gT rfl (bT h7) <| V (fA underlying25 1 rfl sizeOf23 rfl) <| gT rfl (bT h7) <| V (run_ldV (hs.vars.sl.hp hH2) underlying23 rfl rfl (hH2.cell (i := 0) rfl rfl)) <| gT rfl (bT h7) <| mI rfl <| gT rfl (bT h7) <| V (run_indexAddrS (hs.vars.sl.hp hH2) underlying23 sizeOf69 rfl rfl (by omega)) <| gT rfl (bT h7) <| V (fA underlying69 1 rfl sizeOf3 rfl) <| gT rfl (bT h7) <| V (run_ldE1 (dv := var0) (off := 1) varL_len (hs.vars.sl.hp hH2) underlying3 rfl rfl (by omega) rfl) <| gT rfl (bT h7) <| mI rfl <| gT rfl (bT h7) <| V (run_eql rfl rfl) <| V (run_pickT (bT h7) (v := B _) rfl) <| mB rfl <| RL.splitP (dj := 28) rfl (fun h9 => ?_) (fun h9 => ?_)
   ·refine gT rfl (bT h9) <| V (fA underlying25 1 rfl sizeOf23 rfl) <| gT rfl (bT h9) <| V (run_ldV (hs.vars.sl.hp hH2) underlying23 rfl rfl (hH2.cell (i := 0) rfl rfl)) <| gT rfl (bT h9) <| mI rfl <| gT rfl (bT h9) <| V (run_indexAddrS (hs.vars.sl.hp hH2) underlying23 sizeOf69 rfl rfl (by omega)) <| gT rfl (bT h9) <| V (fA underlying69 2 rfl sizeOf3 rfl) <| gT rfl (bT h9) <| V (run_ldE1 (dv := var0) (off := 2) varL_len (hs.vars.sl.hp hH2) underlying3 rfl rfl (by omega) rfl) <| gT rfl (bT h9) <| mI rfl <| gT rfl (bT h9) <| V (run_eql rfl rfl) <| V (run_pickT (bT h9) (v := B _) rfl) <| aB rfl <| RL.nil <| CW.ret <| outP1 Tryz.results61 (congrArg B ?_) hH2.below
    (rw [kind_yes ⟨by omega, by omega⟩ ‹(List.getD s.vars _ _).kind = kd›]; done)
   ·refine gF rfl (bF h9) <| gF rfl (bF h9) <| gF rfl (bF h9) <| gF rfl (bF h9) <| gF rfl (bF h9) <| gF rfl (bF h9) <| gF rfl (bF h9) <| gF rfl (bF h9) <| V (run_pickF (bF h9) (v := B false) rfl) <| aB rfl <| RL.nil <| CW.ret <| outP1 Tryz.results61 (congrArg B ?_) hH2.below
    (rw [kind_no2 ‹¬ (List.getD s.vars _ _).kind = kd›]; done)
  ·refine gF rfl (bF h7) <| gF rfl (bF h7) <| gF rfl (bF h7) <| gF rfl (bF h7) <| gF rfl (bF h7) <| gF rfl (bF h7) <| gF rfl (bF h7) <| gF rfl (bF h7) <| V (run_pickF (bF h7) (v := B false) rfl) <| mB rfl <| gF rfl rfl <| gF rfl rfl <| gF rfl rfl <| gF rfl rfl <| gF rfl rfl <| gF rfl rfl <| gF rfl rfl <| gF rfl rfl <| V (run_pickF rfl (v := B false) rfl) <| aB rfl <| RL.nil <| CW.ret <| outP1 Tryz.results61 (congrArg B ?_) hH2.below
   (rw [kind_no1 (by omega)]; done)
 ·refine gF rfl (bF h5) <| gF rfl (bF h5) <| gF rfl (bF h5) <| gF rfl (bF h5) <| gF rfl (bF h5) <| V (run_pickF (bF h5) (v := B false) rfl) <| mB rfl <| gF rfl rfl <| gF rfl rfl <| gF rfl rfl <| gF rfl rfl <| gF rfl rfl <| gF rfl rfl <| gF rfl rfl <| gF rfl rfl <| V (run_pickF rfl (v := B false) rfl) <| mB rfl <| gF rfl rfl <| gF rfl rfl <| gF rfl rfl <| gF rfl rfl <| gF rfl rfl <| gF rfl rfl <| gF rfl rfl <| gF rfl rfl <| V (run_pickF rfl (v := B false) rfl) <| aB rfl <| RL.nil <| CW.ret <| outP1 Tryz.results61 (congrArg B ?_) hH2.below
  (rw [kind_no1 (by omega)]; done)
theorem c_fit_isAtom (s : Scp) (lat : Int) (t : AtomR) (hlat : 0 ≤ lat ∧ lat < s.lats.length) (w : World) (hs : ScpV (Kw w) s) (hT : Tab w) : Calls Tryz.prog 60 #[.agg (scpC s), I lat, .agg (atomL t).toArray] w (Pure (B (atomOk s lat t)) w) := by
 have hm1 := hs.lats.sl.small
 have hm2 := hs.vars.sl.small
 unfold maxLen at hm1 hm2
 refine enter Tryz.func60 rfl Tryz.ntmps60 rfl <| have hH := Hp.start w; SR <| RL.new rfl hH (f := fun b => (.pointer (some ⟨b, 0, none⟩))) (run_box (v := .agg _) rfl) <| fun b3 w1 hH2 => RL.new rfl hH2 (f := fun b => (.pointer (some ⟨b, 0, none⟩))) (run_box (v := .agg _) rfl) <| fun b6 w4 hH5 => va (v := B false) rfl <| RL.nil <| CW.seq <| SR <| V (fA underlying41 0 rfl sizeOf3 rfl) <| V (run_ld underlying3 rfl rfl (hH5.cell (i := 0) rfl (v := I _) rfl)) <| V (run_lss rfl rfl) <| RL.nil <| CW.condP rfl (fun h8 => ?_) (fun h8 => ?_)
 ·refine CW.seq <| CW.regionD (by kernel_rfl) hH5 <| fun w9 hH10 => have zh10 := hH10.sub sR; AQ 0 rfl zh10 (fA underlying25 0 rfl sizeOf22 rfl) <| AT 1 rfl zh10 (fun w hS => run_ldV (hs.lats.sl.hp hS) underlying22 rfl rfl (hS.cell (i := 1) rfl rfl)) <| AQ 2 rfl zh10 (mV (I _) rfl) <| AT 3 rfl zh10 (fun w hS => run_indexAddrS (hs.lats.sl.hp hS) underlying22 sizeOf67 rfl rfl (by omega)) <| AQ 4 rfl zh10 (fA underlying67 1 rfl sizeOf65 rfl) <| AT 5 rfl zh10 (fun w hS => run_ldEA (dv := lat0) (off := 1) (cs := shpL _) latL_len (hs.lats.sl.hp hS) underlying65 rfl rfl rfl (by omega) (lat_shp _)) <| AQ 6 rfl zh10 (fA underlying41 1 rfl sizeOf39 rfl) <| AT 7 rfl zh10 (fun w hS => run_ldElR underlying39 rfl rfl rfl (hS.blk (i := 0) rfl) (atom_elB _)) <| A1 8 <| AO.callP rfl gnone rfl hH10 sR (c_shape_Fits _ _  _ ((hs.at (by omega) (by omega)).mono hH10.kw) (hT.hp hH10)) (run_call2 call38 rfl rfl) <| fun w11 hH12 => AQ 9 rfl (hH12.sub sR) (aV (B _) rfl) <| AD <| CW.ret <| outP1 Tryz.results60 (congrArg B ?_) hH12.below
  (rw [atom_1 ‹t.var < 0›]; rfl)
 ·refine CW.skip <| SR <| V (run_ldA (cs := scpL _) underlying25 rfl rfl rfl (rangeAt_cells (hH5.blk (i := 1) rfl))) <| V (fA underlying41 0 rfl sizeOf3 rfl) <| V (run_ld underlying3 rfl rfl (hH5.cell (i := 0) rfl (v := I _) rfl)) <| mI rfl <| RL.callP rfl hH5 (c_fit_is _ _ _ _  _ (hs.mono hH5.kw)) (run_call4 call57 rfl rfl (show _ = I 1 from rfl) rfl) <| fun w14 hH15 => aB rfl <| RL.nil <| CW.ret <| outP1 Tryz.results60 (congrArg B ?_) hH15.below
  (rw [atom_2 ‹¬ t.var < 0›]; done)
theorem c_clearanceref15_isAtom (s : Scp) (lat : Int) (t : AtomR) (hlat : 0 ≤ lat ∧ lat < s.lats.length) (w : World) (hs : ScpV (Kw w) s) : Calls Tryz.prog 63 #[.agg (scpC s), I lat, .agg (atomL t).toArray] w (Pure (B (atomOk s lat t)) w) := by
 have hm1 := hs.lats.sl.small
 have hm2 := hs.vars.sl.small
 unfold maxLen at hm1 hm2
 refine enter Tryz.func63 rfl Tryz.ntmps63 rfl <| have hH := Hp.start w; SR <| RL.new rfl hH (f := fun b => (.pointer (some ⟨b, 0, none⟩))) (run_box (v := .agg _) rfl) <| fun b3 w1 hH2 => RL.new rfl hH2 (f := fun b => (.pointer (some ⟨b, 0, none⟩))) (run_box (v := .agg _) rfl) <| fun b6 w4 hH5 => va (v := B false) rfl <| RL.nil <| CW.seq <| SR <| V (fA underlying41 0 rfl sizeOf3 rfl) <| V (run_ld underlying3 rfl rfl (hH5.cell (i := 0) rfl (v := I _) rfl)) <| V (run_lss rfl rfl) <| RL.nil <| CW.condP rfl (fun h8 => ?_) (fun h8 => ?_)
 ·refine CW.seq <| CW.regionD (by kernel_rfl) hH5 <| fun w9 hH10 => have zh10 := hH10.sub sR; AQ 0 rfl zh10 (fA underlying25 0 rfl sizeOf22 rfl) <| AT 1 rfl zh10 (fun w hS => run_ldV (hs.lats.sl.hp hS) underlying22 rfl rfl (hS.cell (i := 1) rfl rfl)) <| AQ 2 rfl zh10 (mV (I _) rfl) <| AT 3 rfl zh10 (fun w hS => run_indexAddrS (hs.lats.sl.hp hS) underlying22 sizeOf67 rfl rfl (by omega)) <| AQ 4 rfl zh10 (fA underlying67 1 rfl sizeOf65 rfl) <| AT 5 rfl zh10 (fun w hS => run_ldEA (dv := lat0) (off := 1) (cs := shpL _) latL_len (hs.lats.sl.hp hS) underlying65 rfl rfl rfl (by omega) (lat_shp _)) <| AQ 6 rfl zh10 (fA underlying41 1 rfl sizeOf39 rfl) <| AT 7 rfl zh10 (fun w hS => run_ldElR underlying39 rfl rfl rfl (hS.blk (i := 0) rfl) (atom_elB _)) <| A1 8 <| AO.callP rfl gnone rfl hH10 sR (c_clearanceref07_Fits _ _  _ ((hs.at (by omega) (by omega)).mono hH10.kw)) (run_call2 call52 rfl rfl) <| fun w11 hH12 => AQ 9 rfl (hH12.sub sR) (aV (B _) rfl) <| AD <| CW.ret <| outP1 Tryz.results63 (congrArg B ?_) hH12.below
  (rw [atom_1 ‹t.var < 0›]; rfl)
 ·refine CW.skip <| SR <| V (run_ldA (cs := scpL _) underlying25 rfl rfl rfl (rangeAt_cells (hH5.blk (i := 1) rfl))) <| V (fA underlying41 0 rfl sizeOf3 rfl) <| V (run_ld underlying3 rfl rfl (hH5.cell (i := 0) rfl (v := I _) rfl)) <| mI rfl <| RL.callP rfl hH5 (c_clearanceref15_Kind _ _ _ _  _ (hs.mono hH5.kw)) (run_call4 call61 rfl rfl (show _ = I 1 from rfl) rfl) <| fun w14 hH15 => aB rfl <| RL.nil <| CW.ret <| outP1 Tryz.results63 (congrArg B ?_) hH15.below
  (rw [atom_2 ‹¬ t.var < 0›]; done)
theorem c_fit_isRow (s : Scp) (lat : Int) (r : RowR) (hlat : 0 ≤ lat ∧ lat < s.lats.length) (w : World) (hs : ScpV (Kw w) s) (hr : RowV (Kw w) r) (hT : Tab w) : Calls Tryz.prog 58 #[.agg (scpC s), I lat, .agg (rtmL r).toArray] w (Pure (B (rowOk s lat r)) w) := by
 have hm1 := hs.lats.sl.small
 have hm2 := hs.vars.sl.small
 unfold maxLen at hm1 hm2
 have hm3 := hr.fields.small
 unfold maxLen at hm3
 refine enter Tryz.func58 rfl Tryz.ntmps58 rfl <| have hH := Hp.start w; SR <| RL.new rfl hH (f := fun b => (.pointer (some ⟨b, 0, none⟩))) (run_box (v := .agg _) rfl) <| fun b3 w1 hH2 => RL.new rfl hH2 (f := fun b => (.pointer (some ⟨b, 0, none⟩))) (run_box (v := .agg _) rfl) <| fun b6 w4 hH5 => va (v := B false) rfl <| RL.nil <| CW.seq <| SR <| V (fA underlying44 0 rfl sizeOf42 rfl) <| V (run_ldV (hr.fields.sl.hp hH5) underlying42 rfl rfl (hH5.cell (i := 0) rfl rfl)) <| V (run_lenSl (hr.fields.sl.hp hH5) rfl underlying42 rfl) <| V (run_gtr rfl rfl) <| mB rfl <| RL.splitP (dj := 14) rfl (fun h8 => ?_) (fun h8 => ?_)
 ·refine gF rfl (bT h8) <| gF rfl (bT h8) <| gF rfl (bT h8) <| gF rfl (bT h8) <| RL.gU rfl rfl rfl <| RL.gU rfl rfl rfl <| RL.gU rfl rfl rfl <| RL.gU rfl rfl rfl <| RL.gU rfl rfl rfl <| RL.gU rfl rfl rfl <| gF rfl (bT h8) <| V (run_pickT (bT h8) (v := B true) rfl) <| RL.nil <| CW.condT rfl <| SR <| va (v := B false) rfl <| RL.nil <| CW.ret <| outP1 Tryz.results58 (congrArg B ?_) hH5.below
  exact (row_no1 (by omega)).symm
 ·refine gT rfl (bF h8) <| V (fA underlying44 1 rfl sizeOf3 rfl) <| gT rfl (bF h8) <| V (run_ld underlying3 rfl rfl (hH5.cell (i := 0) rfl (v := I _) rfl)) <| gT rfl (bF h8) <| V (run_geq rfl rfl) <| gT rfl (bF h8) <| mB rfl <| RL.splitP (dj := 18) rfl (fun h10 => ?_) (fun h10 => ?_)
  ·refine gT rfl (bT h10) <| V (run_ldA (cs := scpL _) underlying25 rfl rfl rfl (rangeAt_cells (hH5.blk (i := 1) rfl))) <| gT rfl (bT h10) <| V (fA underlying44 1 rfl sizeOf3 rfl) <| gT rfl (bT h10) <| V (run_ld underlying3 rfl rfl (hH5.cell (i := 0) rfl (v := I _) rfl)) <| gT rfl (bT h10) <| mI rfl <| gT rfl (bT h10) <| RL.callP rfl hH5 (c_fit_is _ _ _ _  _ (hs.mono hH5.kw)) (run_call4 call57 rfl rfl (show _ = I 2 from rfl) rfl) <| fun w11 hH12 => gT rfl (bT h10) <| V (run_not rfl) <| gT rfl (bF h8) <| V (run_pickT (bT h10) (v := B _) rfl) <| V (run_pickF (bF h8) (v := B _) rfl) <| RL.nil <| CW.cond rfl (fun h15 => ?_) (fun h15 => ?_)
   ·refine SR <| va (v := B false) rfl <| RL.nil <| CW.ret <| outP1 Tryz.results58 (congrArg B ?_) hH12.below
    exact (row_no2 (by omega) (nt ‹(!kdOk s r.tail 2 lat) = true›)).symm
   ·refine CW.skip <| SR <| va (v := .slice none 0 0) rfl <| have hH16 := hH12.nilRow 9 1; RL.nil <| CW.seq <| SR <| V (fA underlying44 0 rfl sizeOf42 rfl) <| V (run_ldV (hr.fields.sl.hp hH16) underlying42 rfl rfl (hH16.cell (i := 1) rfl rfl)) <| V (run_lenSl (hr.fields.sl.hp hH16) rfl underlying42 rfl) <| vm (v := I 0) rfl <| RL.nil <| CW.block <| have hsz : r.fields.length ≤ 16 := (by omega); have htl : r.tail < 0 ∨ kdOk s r.tail 2 lat = true := (by exact .inr (nf ‹(!kdOk s r.tail 2 lat) = false›)); CW.loop (G := Int × (List Tx) × Value) (fun ⟨k, m, v7⟩ s' w' => (Fr (6 :: 7 :: (9 :: (rg 30 22 []))) _ s') ∧ (Hp w w' (.row v7 9 1 (m.length) (txL m) :: _)) ∧ (s' 7 = v7) ∧ (s' 30 = I k) ∧ (0 ≤ k) ∧ (k ≤ r.fields.length) ∧ (m = (r.fields.take k.toNat).map FieldR.name) ∧ ((m.length : Int) = k) ∧ (∀ j : Int, 0 ≤ j → j < k → fieldOk s lat (r.fields.getD j.toNat field0) = true)) (fun ⟨k, m, v7⟩ => (r.fields.length - k).toNat) ((0, [], (.slice none 0 0 : Value))) ⟨Fr.refl _ _, hH16, rfl, rfl, (by omega), (by omega), rfl, rfl, fun j a b => absurd b (by omega)⟩ <| ?_
    rintro ⟨k, m, v7⟩ sg17 w17 ⟨fr17, hH17, e7_17, e30_17, h0, hk, hm, hml, hg⟩
    have e1_17 := fr17.ii 1 rfl rfl
    have e3_17 := fr17.pp 3 rfl rfl
    have e28_17 := (fr17 28 rfl).trans (by conv => lhs; whnf)
    have e29_17 := fr17.ii 29 rfl rfl
    refine SR <| V (run_lss e30_17 e29_17) <| RL.nil <| CW.seq <| CW.condP rfl (fun h19 => ?_) (fun h19 => ?_)
    ·refine CW.skip <| CW.seq <| CW.block <| SR <| V (run_indexAddrS (hr.fields.sl.hp hH17) underlying42 sizeOf71 e28_17 e30_17 (by omega)) <| V (run_ldE (dv := field0) fieldL_len (hr.fields.sl.hp hH17) underlying71 rfl rfl rfl (by omega)) <| RL.new rfl hH17 (f := fun b => (.pointer (some ⟨b, 0, none⟩))) (run_alloc zero_field) <| fun b22 w20 hH21 => RL.set hH21 (i := 0) rfl (run_stW (c' := (fieldL _).toArray) rfl rfl rfl (fieldL_one _) (hH21.blk (i := 0) rfl) rfl) <| fun w23 hH24 => ?_
     simp only [z2] at hH24
     refine RL.nil <| CW.seq <| SR <| V (fA underlying71 0 rfl sizeOf9 rfl) <| V (run_ld underlying9 rfl rfl (hH24.cell (i := 0) rfl (v := .string _) rfl)) <| RL.callP rfl hH24 (c_name_Right _  _) (run_call1 call54 rfl) <| fun w25 hH26 => V (run_not rfl) <| mB rfl <| RL.split (dj := 38) rfl (fun h29 => ?_) (fun h29 => ?_)
     ·refine gF rfl (bR (c := true) h29) <| gF rfl (bR (c := true) h29) <| gF rfl (bR (c := true) h29) <| gF rfl (bR (c := true) h29) <| gF rfl (bR (c := true) h29) <| gF rfl (bR (c := true) h29) <| V (run_pickT (bR (c := true) h29) (v := B true) rfl) <| RL.nil <| CW.condT rfl <| SR <| va (v := B false) rfl <| RL.nil <| CW.ret <| outP1 Tryz.results58 (congrArg B ?_) hH26.below
      exact (row_no3 h0 ‹k < _› (field_no1 (nt ‹(!nameR _) = true›))).symm
     ·refine gT rfl (bR (c := false) h29) <| V (run_ldA (cs := scpL _) underlying25 rfl rfl e3_17 (rangeAt_cells (hH26.blk (i := 3) rfl))) <| gT rfl (bR (c := false) h29) <| vm e1_17 <| gT rfl (bR (c := false) h29) <| V (fA underlying71 1 rfl sizeOf41 rfl) <| gT rfl (bR (c := false) h29) <| V (run_ldSub (sub := atomL _) underlying41 rfl rfl rfl (hH26.blk (i := 0) rfl) (field_atB _)) <| gT rfl (bR (c := false) h29) <| RL.callP rfl hH26 (c_fit_isAtom _ _ _ (by omega) _ (hs.mono hH26.kw) (hT.hp hH26)) (run_call3 call60 rfl rfl rfl) <| fun w30 hH31 => gT rfl (bR (c := false) h29) <| V (run_not rfl) <| V (run_pickF (bR (c := false) h29) (v := B _) rfl) <| RL.nil <| CW.cond rfl (fun h34 => ?_) (fun h34 => ?_)
      ·refine SR <| va (v := B false) rfl <| RL.nil <| CW.ret <| outP1 Tryz.results58 (congrArg B ?_) hH31.below
       exact (row_no3 h0 ‹k < _› (field_no2 (nt ‹(!atomOk s lat _) = true›))).symm
      ·refine CW.skip <| CW.region <| vm e7_17 <| V (fA underlying71 0 rfl sizeOf9 rfl) <| V (run_ld underlying9 rfl rfl (hH31.cell (i := 0) rfl (v := .string _) rfl)) <| RL.new rfl hH31 (f := fun b => (.slice (some ⟨b, 0, none⟩) 1 1)) (run_mkL underlying57 rfl rfl (sz := 1) (vs := [.string _]) rfl rfl (by decide) (by decide) rfl rfl) <| fun b37 w35 hH36 => ?_
       (try simp only [clX] at hH36)
       refine RL.app rfl hH36 (i := 2) rfl (hH36.slBlk (i := 0) (n := 1) (sz := 1) rfl rfl (by decide)) rfl rfl underlying57 rfl rfl (size := 1) (bytes := 16) rfl rfl rfl (by decide) (by simp [Value.oneCell']) (by omega) (by simp only [maxLen]; omega) <| fun v38 w39 hH40 => ?_
       simp only [z2] at hH40
       refine V (run_assign (by conv => lhs; whnf)) ?_
       refine RL.nil <| CW.region <| V (run_add e30_17 rfl (by omega)) <| mI rfl <| RL.nil <| ?_
       refine ⟨(k + 1, m ++ [(r.fields.getD k.toNat field0).name], v38), ?_, fr17.u4.u4.u4.u4.u4.u4, (Hp.conv (hH40.sub (sQ (sQ sR))) (by simp)), rfl, (congrArg I (by rfl)), ?_, ?_, ?_, ?_, ?_⟩
       ·((try dsimp only); omega)
       ·omega
       ·omega
       ·rw [fnames_next h0 ‹k < _›, ← hm]
       ·simp only [List.length_append, List.length_singleton]; omega
       ·exact fun j a b => if e : j = k then e ▸ field_yes (nf ‹(!nameR _) = false›) (nf ‹(!atomOk s lat _) = false›) else hg j a (by omega)
    ·refine CW.exit (id := 0) rfl <| SR <| vm e7_17 <| RL.callP rfl hH17 (c_name_Twice _ _  _ (hH17.sl (i := 0) rfl)) (run_call1 call56 rfl) <| fun w41 hH42 => V (run_lss rfl rfl) <| aB rfl <| RL.nil <| CW.ret <| outP1 Tryz.results58 (congrArg B ?_) hH42.below
     (rw [row_yes hsz htl ‹¬ k < _› hg, show m = fnames r by rw [hm, List.take_of_length_le (by omega)]; rfl])
  ·refine gF rfl (bF h10) <| gF rfl (bF h10) <| gF rfl (bF h10) <| gF rfl (bF h10) <| gF rfl (bF h10) <| gF rfl (bF h10) <| gT rfl (bF h8) <| V (run_pickF (bF h10) (v := B false) rfl) <| V (run_pickF (bF h8) (v := B _) rfl) <| RL.nil <| CW.condF rfl <| CW.skip <| SR <| va (v := .slice none 0 0) rfl <| have hH44 := hH5.nilRow 9 1; RL.nil <| CW.seq <| SR <| V (fA underlying44 0 rfl sizeOf42 rfl) <| V (run_ldV (hr.fields.sl.hp hH44) underlying42 rfl rfl (hH44.cell (i := 1) rfl rfl)) <| V (run_lenSl (hr.fields.sl.hp hH44) rfl underlying42 rfl) <| vm (v := I 0) rfl <| RL.nil <| CW.block <| have hsz : r.fields.length ≤ 16 := (by omega); have htl : r.tail < 0 ∨ kdOk s r.tail 2 lat = true := (by exact .inl (by omega)); CW.loop (G := Int × (List Tx) × Value) (fun ⟨k, m, v7⟩ s' w' => (Fr (6 :: 7 :: (9 :: (rg 30 22 []))) _ s') ∧ (Hp w w' (.row v7 9 1 (m.length) (txL m) :: _)) ∧ (s' 7 = v7) ∧ (s' 30 = I k) ∧ (0 ≤ k) ∧ (k ≤ r.fields.length) ∧ (m = (r.fields.take k.toNat).map FieldR.name) ∧ ((m.length : Int) = k) ∧ (∀ j : Int, 0 ≤ j → j < k → fieldOk s lat (r.fields.getD j.toNat field0) = true)) (fun ⟨k, m, v7⟩ => (r.fields.length - k).toNat) ((0, [], (.slice none 0 0 : Value))) ⟨Fr.refl _ _, hH44, rfl, rfl, (by omega), (by omega), rfl, rfl, fun j a b => absurd b (by omega)⟩ <| ?_
   rintro ⟨k, m, v7⟩ sg45 w45 ⟨fr45, hH45, e7_45, e30_45, h0, hk, hm, hml, hg⟩
   have e1_45 := fr45.ii 1 rfl rfl
   have e3_45 := fr45.pp 3 rfl rfl
   have e28_45 := (fr45 28 rfl).trans (by conv => lhs; whnf)
   have e29_45 := fr45.ii 29 rfl rfl
   refine SR <| V (run_lss e30_45 e29_45) <| RL.nil <| CW.seq <| CW.condP rfl (fun h47 => ?_) (fun h47 => ?_)
   ·refine CW.skip <| CW.seq <| CW.block <| SR <| V (run_indexAddrS (hr.fields.sl.hp hH45) underlying42 sizeOf71 e28_45 e30_45 (by omega)) <| V (run_ldE (dv := field0) fieldL_len (hr.fields.sl.hp hH45) underlying71 rfl rfl rfl (by omega)) <| RL.new rfl hH45 (f := fun b => (.pointer (some ⟨b, 0, none⟩))) (run_alloc zero_field) <| fun b50 w48 hH49 => RL.set hH49 (i := 0) rfl (run_stW (c' := (fieldL _).toArray) rfl rfl rfl (fieldL_one _) (hH49.blk (i := 0) rfl) rfl) <| fun w51 hH52 => ?_
    simp only [z2] at hH52
    refine RL.nil <| CW.seq <| SR <| V (fA underlying71 0 rfl sizeOf9 rfl) <| V (run_ld underlying9 rfl rfl (hH52.cell (i := 0) rfl (v := .string _) rfl)) <| RL.callP rfl hH52 (c_name_Right _  _) (run_call1 call54 rfl) <| fun w53 hH54 => V (run_not rfl) <| mB rfl <| RL.split (dj := 38) rfl (fun h57 => ?_) (fun h57 => ?_)
    ·refine gF rfl (bR (c := true) h57) <| gF rfl (bR (c := true) h57) <| gF rfl (bR (c := true) h57) <| gF rfl (bR (c := true) h57) <| gF rfl (bR (c := true) h57) <| gF rfl (bR (c := true) h57) <| V (run_pickT (bR (c := true) h57) (v := B true) rfl) <| RL.nil <| CW.condT rfl <| SR <| va (v := B false) rfl <| RL.nil <| CW.ret <| outP1 Tryz.results58 (congrArg B ?_) hH54.below
     exact (row_no3 h0 ‹k < _› (field_no1 (nt ‹(!nameR _) = true›))).symm
    ·refine gT rfl (bR (c := false) h57) <| V (run_ldA (cs := scpL _) underlying25 rfl rfl e3_45 (rangeAt_cells (hH54.blk (i := 3) rfl))) <| gT rfl (bR (c := false) h57) <| vm e1_45 <| gT rfl (bR (c := false) h57) <| V (fA underlying71 1 rfl sizeOf41 rfl) <| gT rfl (bR (c := false) h57) <| V (run_ldSub (sub := atomL _) underlying41 rfl rfl rfl (hH54.blk (i := 0) rfl) (field_atB _)) <| gT rfl (bR (c := false) h57) <| RL.callP rfl hH54 (c_fit_isAtom _ _ _ (by omega) _ (hs.mono hH54.kw) (hT.hp hH54)) (run_call3 call60 rfl rfl rfl) <| fun w58 hH59 => gT rfl (bR (c := false) h57) <| V (run_not rfl) <| V (run_pickF (bR (c := false) h57) (v := B _) rfl) <| RL.nil <| CW.cond rfl (fun h62 => ?_) (fun h62 => ?_)
     ·refine SR <| va (v := B false) rfl <| RL.nil <| CW.ret <| outP1 Tryz.results58 (congrArg B ?_) hH59.below
      exact (row_no3 h0 ‹k < _› (field_no2 (nt ‹(!atomOk s lat _) = true›))).symm
     ·refine CW.skip <| CW.region <| vm e7_45 <| V (fA underlying71 0 rfl sizeOf9 rfl) <| V (run_ld underlying9 rfl rfl (hH59.cell (i := 0) rfl (v := .string _) rfl)) <| RL.new rfl hH59 (f := fun b => (.slice (some ⟨b, 0, none⟩) 1 1)) (run_mkL underlying57 rfl rfl (sz := 1) (vs := [.string _]) rfl rfl (by decide) (by decide) rfl rfl) <| fun b65 w63 hH64 => ?_
      (try simp only [clX] at hH64)
      refine RL.app rfl hH64 (i := 2) rfl (hH64.slBlk (i := 0) (n := 1) (sz := 1) rfl rfl (by decide)) rfl rfl underlying57 rfl rfl (size := 1) (bytes := 16) rfl rfl rfl (by decide) (by simp [Value.oneCell']) (by omega) (by simp only [maxLen]; omega) <| fun v66 w67 hH68 => ?_
      simp only [z2] at hH68
      refine V (run_assign (by conv => lhs; whnf)) ?_
      refine RL.nil <| CW.region <| V (run_add e30_45 rfl (by omega)) <| mI rfl <| RL.nil <| ?_
      refine ⟨(k + 1, m ++ [(r.fields.getD k.toNat field0).name], v66), ?_, fr45.u4.u4.u4.u4.u4.u4, (Hp.conv (hH68.sub (sQ (sQ sR))) (by simp)), rfl, (congrArg I (by rfl)), ?_, ?_, ?_, ?_, ?_⟩
      ·((try dsimp only); omega)
      ·omega
      ·omega
      ·rw [fnames_next h0 ‹k < _›, ← hm]
      ·simp only [List.length_append, List.length_singleton]; omega
      ·exact fun j a b => if e : j = k then e ▸ field_yes (nf ‹(!nameR _) = false›) (nf ‹(!atomOk s lat _) = false›) else hg j a (by omega)
   ·refine CW.exit (id := 0) rfl <| SR <| vm e7_45 <| RL.callP rfl hH45 (c_name_Twice _ _  _ (hH45.sl (i := 0) rfl)) (run_call1 call56 rfl) <| fun w69 hH70 => V (run_lss rfl rfl) <| aB rfl <| RL.nil <| CW.ret <| outP1 Tryz.results58 (congrArg B ?_) hH70.below
    (rw [row_yes hsz htl ‹¬ k < _› hg, show m = fnames r by rw [hm, List.take_of_length_le (by omega)]; rfl])
theorem c_clearanceref15_isRow (s : Scp) (lat : Int) (r : RowR) (hlat : 0 ≤ lat ∧ lat < s.lats.length) (w : World) (hs : ScpV (Kw w) s) (hr : RowV (Kw w) r) : Calls Tryz.prog 62 #[.agg (scpC s), I lat, .agg (rtmL r).toArray] w (Pure (B (rowOk s lat r)) w) := by
 have hm1 := hs.lats.sl.small
 have hm2 := hs.vars.sl.small
 unfold maxLen at hm1 hm2
 have hm3 := hr.fields.small
 unfold maxLen at hm3
 refine enter Tryz.func62 rfl Tryz.ntmps62 rfl <| have hH := Hp.start w; SR <| RL.new rfl hH (f := fun b => (.pointer (some ⟨b, 0, none⟩))) (run_box (v := .agg _) rfl) <| fun b3 w1 hH2 => RL.new rfl hH2 (f := fun b => (.pointer (some ⟨b, 0, none⟩))) (run_box (v := .agg _) rfl) <| fun b6 w4 hH5 => va (v := B false) rfl <| RL.nil <| SR <| va (v := .slice none 0 0) rfl <| have hH7 := hH5.nilRow 9 1; RL.nil <| CW.seq <| SR <| V (fA underlying44 0 rfl sizeOf42 rfl) <| V (run_ldV (hr.fields.sl.hp hH7) underlying42 rfl rfl (hH7.cell (i := 1) rfl rfl)) <| V (run_lenSl (hr.fields.sl.hp hH7) rfl underlying42 rfl) <| V (run_gtr rfl rfl) <| mB rfl <| RL.splitP (dj := 13) rfl (fun h9 => ?_) (fun h9 => ?_)
 ·refine gF rfl (bT h9) <| gF rfl (bT h9) <| gF rfl (bT h9) <| gF rfl (bT h9) <| RL.gU rfl rfl rfl <| RL.gU rfl rfl rfl <| RL.gU rfl rfl rfl <| RL.gU rfl rfl rfl <| RL.gU rfl rfl rfl <| RL.gU rfl rfl rfl <| gF rfl (bT h9) <| V (run_pickT (bT h9) (v := B true) rfl) <| RL.nil <| CW.condT rfl <| SR <| va (v := B false) rfl <| RL.nil <| CW.ret <| outP1 Tryz.results62 (congrArg B ?_) hH7.below
  exact (row_no1 (by omega)).symm
 ·refine gT rfl (bF h9) <| V (fA underlying44 1 rfl sizeOf3 rfl) <| gT rfl (bF h9) <| V (run_ld underlying3 rfl rfl (hH7.cell (i := 1) rfl (v := I _) rfl)) <| gT rfl (bF h9) <| V (run_geq rfl rfl) <| gT rfl (bF h9) <| mB rfl <| RL.splitP (dj := 17) rfl (fun h11 => ?_) (fun h11 => ?_)
  ·refine gT rfl (bT h11) <| V (run_ldA (cs := scpL _) underlying25 rfl rfl rfl (rangeAt_cells (hH7.blk (i := 2) rfl))) <| gT rfl (bT h11) <| V (fA underlying44 1 rfl sizeOf3 rfl) <| gT rfl (bT h11) <| V (run_ld underlying3 rfl rfl (hH7.cell (i := 1) rfl (v := I _) rfl)) <| gT rfl (bT h11) <| mI rfl <| gT rfl (bT h11) <| RL.callP rfl hH7 (c_clearanceref15_Kind _ _ _ _  _ (hs.mono hH7.kw)) (run_call4 call61 rfl rfl (show _ = I 2 from rfl) rfl) <| fun w12 hH13 => gT rfl (bT h11) <| V (run_not rfl) <| gT rfl (bF h9) <| V (run_pickT (bT h11) (v := B _) rfl) <| V (run_pickF (bF h9) (v := B _) rfl) <| RL.nil <| CW.cond rfl (fun h16 => ?_) (fun h16 => ?_)
   ·refine SR <| va (v := B false) rfl <| RL.nil <| CW.ret <| outP1 Tryz.results62 (congrArg B ?_) hH13.below
    exact (row_no2 (by omega) (nt ‹(!kdOk s r.tail 2 lat) = true›)).symm
   ·refine CW.skip <| CW.seq <| SR <| va (v := I 0) rfl <| RL.nil <| CW.block <| have hsz : r.fields.length ≤ 16 := (by omega); have htl : r.tail < 0 ∨ kdOk s r.tail 2 lat = true := (by exact .inr (nf ‹(!kdOk s r.tail 2 lat) = false›)); CW.loop (G := Int × (List Tx) × Value) (fun ⟨k, m, v7⟩ s' w' => (Fr (rg 6 3 (rg 26 34 [])) _ s') ∧ (Hp w w' (.row v7 9 1 (m.length) (txL m) :: _)) ∧ (s' 7 = v7) ∧ (s' 8 = I k) ∧ (0 ≤ k) ∧ (k ≤ r.fields.length) ∧ (m = (r.fields.take k.toNat).map FieldR.name) ∧ ((m.length : Int) = k) ∧ (∀ j : Int, 0 ≤ j → j < k → fieldOk s lat (r.fields.getD j.toNat field0) = true)) (fun ⟨k, m, v7⟩ => (r.fields.length - k).toNat) ((0, [], (.slice none 0 0 : Value))) ⟨Fr.refl _ _, hH13, rfl, rfl, (by omega), (by omega), rfl, rfl, fun j a b => absurd b (by omega)⟩ <| ?_
    rintro ⟨k, m, v7⟩ sg17 w17 ⟨fr17, hH17, e7_17, e8_17, h0, hk, hm, hml, hg⟩
    have e1_17 := fr17.ii 1 rfl rfl
    have e3_17 := fr17.pp 3 rfl rfl
    have e5_17 := fr17.pp 5 rfl rfl
    refine CW.seq <| SR <| vm e8_17 <| V (fA underlying44 0 rfl sizeOf42 e5_17) <| V (run_ldV (hr.fields.sl.hp hH17) underlying42 rfl rfl (hH17.cell (i := 1) rfl rfl)) <| V (run_lenSl (hr.fields.sl.hp hH17) rfl underlying42 rfl) <| V (run_lss rfl rfl) <| RL.nil <| CW.condP rfl (fun h19 => ?_) (fun h19 => ?_)
    ·refine CW.skip <| CW.seq <| CW.block <| SR <| vm e7_17 <| V (fA underlying44 0 rfl sizeOf42 e5_17) <| V (run_ldV (hr.fields.sl.hp hH17) underlying42 rfl rfl (hH17.cell (i := 1) rfl rfl)) <| vm e8_17 <| V (run_indexAddrS (hr.fields.sl.hp hH17) underlying42 sizeOf71 rfl rfl (by omega)) <| V (fA underlying71 0 rfl sizeOf9 rfl) <| V (run_ldE1 (dv := field0) (off := 0) fieldL_len (hr.fields.sl.hp hH17) underlying9 rfl rfl (by omega) rfl) <| RL.new rfl hH17 (f := fun b => (.slice (some ⟨b, 0, none⟩) 1 1)) (run_mkL underlying57 rfl rfl (sz := 1) (vs := [.string _]) rfl rfl (by decide) (by decide) rfl rfl) <| fun b22 w20 hH21 => ?_
     (try simp only [clX] at hH21)
     refine RL.app rfl hH21 (i := 1) rfl (hH21.slBlk (i := 0) (n := 1) (sz := 1) rfl rfl (by decide)) rfl rfl underlying57 rfl rfl (size := 1) (bytes := 16) rfl rfl rfl (by decide) (by simp [Value.oneCell']) (by omega) (by simp only [maxLen]; omega) <| fun v23 w24 hH25 => ?_
     simp only [z2] at hH25
     refine V (run_assign (by conv => lhs; whnf)) ?_
     refine RL.nil <| CW.seq <| CW.regionD (by kernel_rfl) hH25 <| fun w26 hH27 => have zh27 := hH27.sub sR; ?_
     refine AQ 0 rfl zh27 (run_move (by conv => lhs; whnf)) ?_
     refine AQ 1 rfl zh27 (run_move e8_17) <| AT 2 rfl zh27 (fun w hS => run_indexAddrS (hS.sl (i := 1) rfl) underlying57 sizeOf9 rfl rfl (by omega)) <| AT 3 rfl zh27 (fun w hS => run_ld underlying9 rfl rfl ((hS.sl (i := 1) rfl).cell _ _ (txL_last hml))) <| A1 4 <| AO.callP rfl gnone rfl hH27 sR (c_clearanceref02_Right _  _) (run_call1 call36 rfl) <| fun w28 hH29 => have zh29 := hH29.sub sR; AQ 5 rfl zh29 (run_not rfl) <| AQ 6 rfl zh29 (mV (B _) rfl) <| AN.split (dj := 48) rfl (fun h32 => ?_) (fun h32 => ?_)
     ·refine AK 7 rfl rfl (bR (c := true) h32) (hH29.sub sR) <| AK 8 rfl rfl (bR (c := true) h32) (hH29.sub sR) <| AK 9 rfl rfl (bR (c := true) h32) (hH29.sub sR) <| AK 10 rfl rfl (bR (c := true) h32) (hH29.sub sR) <| AK 11 rfl rfl (bR (c := true) h32) (hH29.sub sR) <| AK 12 rfl rfl (bR (c := true) h32) (hH29.sub sR) <| AK 13 rfl rfl (bR (c := true) h32) (hH29.sub sR) <| AK 14 rfl rfl (bR (c := true) h32) (hH29.sub sR) <| AK 15 rfl rfl (bR (c := true) h32) (hH29.sub sR) <| AK 16 rfl rfl (bR (c := true) h32) (hH29.sub sR) <| AQ 17 rfl zh29 (run_pickT (bR (c := true) h32) (v := B true) rfl) <| AD <| CW.condT rfl <| SR <| va (v := B false) rfl <| RL.nil <| CW.ret <| outP1 Tryz.results62 (congrArg B ?_) hH29.below
      exact (row_no3 h0 ‹k < _› (field_no1 (nt ‹(!nameR _) = true›))).symm
     ·refine AG 7 rfl rfl (bR (c := false) h32) (hH29.sub sR) (fun w hS => run_ldA (cs := scpL _) underlying25 rfl rfl e3_17 (rangeAt_cells (hS.blk (i := 3) rfl))) <| AG 8 rfl rfl (bR (c := false) h32) (hH29.sub sR) (fun w hS => run_move e1_17) <| AG 9 rfl rfl (bR (c := false) h32) (hH29.sub sR) (fun w hS => fA underlying44 0 rfl sizeOf42 e5_17) <| AG 10 rfl rfl (bR (c := false) h32) (hH29.sub sR) (fun w hS => run_ldV (hr.fields.sl.hp hS) underlying42 rfl rfl (hS.cell (i := 2) rfl rfl)) <| AG 11 rfl rfl (bR (c := false) h32) (hH29.sub sR) (fun w hS => run_move e8_17) <| AG 12 rfl rfl (bR (c := false) h32) (hH29.sub sR) (fun w hS => run_indexAddrS (hr.fields.sl.hp hS) underlying42 sizeOf71 rfl rfl (by omega)) <| AG 13 rfl rfl (bR (c := false) h32) (hH29.sub sR) (fun w hS => fA underlying71 1 rfl sizeOf41 rfl) <| AG 14 rfl rfl (bR (c := false) h32) (hH29.sub sR) (fun w hS => run_ldEA (dv := field0) (off := 1) (cs := atomL _) fieldL_len (hr.fields.sl.hp hS) underlying41 rfl rfl rfl (by omega) (field_atE _)) <| A1 15 <| AO.callP rfl (gsome rfl (bR (c := false) h32)) rfl hH29 sR (c_clearanceref15_isAtom _ _ _ (by omega) _ (hs.mono hH29.kw)) (run_call3 call63 rfl rfl rfl) <| fun w33 hH34 => AG 16 rfl rfl (bR (c := false) h32) (hH34.sub sR) (fun w hS => run_not rfl) <| AQ 17 rfl (hH34.sub sR) (run_pickF (bR (c := false) h32) (v := B _) rfl) <| AD <| CW.cond rfl (fun h37 => ?_) (fun h37 => ?_)
      ·refine SR <| va (v := B false) rfl <| RL.nil <| CW.ret <| outP1 Tryz.results62 (congrArg B ?_) hH34.below
       exact (row_no3 h0 ‹k < _› (field_no2 (nt ‹(!atomOk s lat _) = true›))).symm
      ·refine CW.skip <| CW.region <| vm e8_17 <| V (run_add rfl rfl (by omega)) <| aI rfl <| RL.nil <| ?_
       refine ⟨(k + 1, m ++ [(r.fields.getD k.toNat field0).name], v23), ?_, fr17.u4.u4.u4.u4.u4.u4.u4.u4.u4, (Hp.conv (hH34.sub (sQ sR)) (by simp)), rfl, (congrArg I (by rfl)), ?_, ?_, ?_, ?_, ?_⟩
       ·((try dsimp only); omega)
       ·omega
       ·omega
       ·rw [fnames_next h0 ‹k < _›, ← hm]
       ·simp only [List.length_append, List.length_singleton]; omega
       ·exact fun j a b => if e : j = k then e ▸ field_yes (nf ‹(!nameR _) = false›) (nf ‹(!atomOk s lat _) = false›) else hg j a (by omega)
    ·refine CW.exit (id := 0) rfl <| SR <| vm e7_17 <| RL.callP rfl hH17 (c_clearanceref02_Twice _ _  _ (hH17.sl (i := 0) rfl)) (run_call1 call37 rfl) <| fun w38 hH39 => V (run_lss rfl rfl) <| aB rfl <| RL.nil <| CW.ret <| outP1 Tryz.results62 (congrArg B ?_) hH39.below
     (rw [row_yes hsz htl ‹¬ k < _› hg, show m = fnames r by rw [hm, List.take_of_length_le (by omega)]; rfl])
  ·refine gF rfl (bF h11) <| gF rfl (bF h11) <| gF rfl (bF h11) <| gF rfl (bF h11) <| gF rfl (bF h11) <| gF rfl (bF h11) <| gT rfl (bF h9) <| V (run_pickF (bF h11) (v := B false) rfl) <| V (run_pickF (bF h9) (v := B _) rfl) <| RL.nil <| CW.condF rfl <| CW.skip <| CW.seq <| SR <| va (v := I 0) rfl <| RL.nil <| CW.block <| have hsz : r.fields.length ≤ 16 := (by omega); have htl : r.tail < 0 ∨ kdOk s r.tail 2 lat = true := (by exact .inl (by omega)); CW.loop (G := Int × (List Tx) × Value) (fun ⟨k, m, v7⟩ s' w' => (Fr (rg 6 3 (rg 26 34 [])) _ s') ∧ (Hp w w' (.row v7 9 1 (m.length) (txL m) :: _)) ∧ (s' 7 = v7) ∧ (s' 8 = I k) ∧ (0 ≤ k) ∧ (k ≤ r.fields.length) ∧ (m = (r.fields.take k.toNat).map FieldR.name) ∧ ((m.length : Int) = k) ∧ (∀ j : Int, 0 ≤ j → j < k → fieldOk s lat (r.fields.getD j.toNat field0) = true)) (fun ⟨k, m, v7⟩ => (r.fields.length - k).toNat) ((0, [], (.slice none 0 0 : Value))) ⟨Fr.refl _ _, hH7, rfl, rfl, (by omega), (by omega), rfl, rfl, fun j a b => absurd b (by omega)⟩ <| ?_
   rintro ⟨k, m, v7⟩ sg41 w41 ⟨fr41, hH41, e7_41, e8_41, h0, hk, hm, hml, hg⟩
   have e1_41 := fr41.ii 1 rfl rfl
   have e3_41 := fr41.pp 3 rfl rfl
   have e5_41 := fr41.pp 5 rfl rfl
   refine CW.seq <| SR <| vm e8_41 <| V (fA underlying44 0 rfl sizeOf42 e5_41) <| V (run_ldV (hr.fields.sl.hp hH41) underlying42 rfl rfl (hH41.cell (i := 1) rfl rfl)) <| V (run_lenSl (hr.fields.sl.hp hH41) rfl underlying42 rfl) <| V (run_lss rfl rfl) <| RL.nil <| CW.condP rfl (fun h43 => ?_) (fun h43 => ?_)
   ·refine CW.skip <| CW.seq <| CW.block <| SR <| vm e7_41 <| V (fA underlying44 0 rfl sizeOf42 e5_41) <| V (run_ldV (hr.fields.sl.hp hH41) underlying42 rfl rfl (hH41.cell (i := 1) rfl rfl)) <| vm e8_41 <| V (run_indexAddrS (hr.fields.sl.hp hH41) underlying42 sizeOf71 rfl rfl (by omega)) <| V (fA underlying71 0 rfl sizeOf9 rfl) <| V (run_ldE1 (dv := field0) (off := 0) fieldL_len (hr.fields.sl.hp hH41) underlying9 rfl rfl (by omega) rfl) <| RL.new rfl hH41 (f := fun b => (.slice (some ⟨b, 0, none⟩) 1 1)) (run_mkL underlying57 rfl rfl (sz := 1) (vs := [.string _]) rfl rfl (by decide) (by decide) rfl rfl) <| fun b46 w44 hH45 => ?_
    (try simp only [clX] at hH45)
    refine RL.app rfl hH45 (i := 1) rfl (hH45.slBlk (i := 0) (n := 1) (sz := 1) rfl rfl (by decide)) rfl rfl underlying57 rfl rfl (size := 1) (bytes := 16) rfl rfl rfl (by decide) (by simp [Value.oneCell']) (by omega) (by simp only [maxLen]; omega) <| fun v47 w48 hH49 => ?_
    simp only [z2] at hH49
    refine V (run_assign (by conv => lhs; whnf)) ?_
    refine RL.nil <| CW.seq <| CW.regionD (by kernel_rfl) hH49 <| fun w50 hH51 => have zh51 := hH51.sub sR; ?_
    refine AQ 0 rfl zh51 (run_move (by conv => lhs; whnf)) ?_
    refine AQ 1 rfl zh51 (run_move e8_41) <| AT 2 rfl zh51 (fun w hS => run_indexAddrS (hS.sl (i := 1) rfl) underlying57 sizeOf9 rfl rfl (by omega)) <| AT 3 rfl zh51 (fun w hS => run_ld underlying9 rfl rfl ((hS.sl (i := 1) rfl).cell _ _ (txL_last hml))) <| A1 4 <| AO.callP rfl gnone rfl hH51 sR (c_clearanceref02_Right _  _) (run_call1 call36 rfl) <| fun w52 hH53 => have zh53 := hH53.sub sR; AQ 5 rfl zh53 (run_not rfl) <| AQ 6 rfl zh53 (mV (B _) rfl) <| AN.split (dj := 48) rfl (fun h56 => ?_) (fun h56 => ?_)
    ·refine AK 7 rfl rfl (bR (c := true) h56) (hH53.sub sR) <| AK 8 rfl rfl (bR (c := true) h56) (hH53.sub sR) <| AK 9 rfl rfl (bR (c := true) h56) (hH53.sub sR) <| AK 10 rfl rfl (bR (c := true) h56) (hH53.sub sR) <| AK 11 rfl rfl (bR (c := true) h56) (hH53.sub sR) <| AK 12 rfl rfl (bR (c := true) h56) (hH53.sub sR) <| AK 13 rfl rfl (bR (c := true) h56) (hH53.sub sR) <| AK 14 rfl rfl (bR (c := true) h56) (hH53.sub sR) <| AK 15 rfl rfl (bR (c := true) h56) (hH53.sub sR) <| AK 16 rfl rfl (bR (c := true) h56) (hH53.sub sR) <| AQ 17 rfl zh53 (run_pickT (bR (c := true) h56) (v := B true) rfl) <| AD <| CW.condT rfl <| SR <| va (v := B false) rfl <| RL.nil <| CW.ret <| outP1 Tryz.results62 (congrArg B ?_) hH53.below
     exact (row_no3 h0 ‹k < _› (field_no1 (nt ‹(!nameR _) = true›))).symm
    ·refine AG 7 rfl rfl (bR (c := false) h56) (hH53.sub sR) (fun w hS => run_ldA (cs := scpL _) underlying25 rfl rfl e3_41 (rangeAt_cells (hS.blk (i := 3) rfl))) <| AG 8 rfl rfl (bR (c := false) h56) (hH53.sub sR) (fun w hS => run_move e1_41) <| AG 9 rfl rfl (bR (c := false) h56) (hH53.sub sR) (fun w hS => fA underlying44 0 rfl sizeOf42 e5_41) <| AG 10 rfl rfl (bR (c := false) h56) (hH53.sub sR) (fun w hS => run_ldV (hr.fields.sl.hp hS) underlying42 rfl rfl (hS.cell (i := 2) rfl rfl)) <| AG 11 rfl rfl (bR (c := false) h56) (hH53.sub sR) (fun w hS => run_move e8_41) <| AG 12 rfl rfl (bR (c := false) h56) (hH53.sub sR) (fun w hS => run_indexAddrS (hr.fields.sl.hp hS) underlying42 sizeOf71 rfl rfl (by omega)) <| AG 13 rfl rfl (bR (c := false) h56) (hH53.sub sR) (fun w hS => fA underlying71 1 rfl sizeOf41 rfl) <| AG 14 rfl rfl (bR (c := false) h56) (hH53.sub sR) (fun w hS => run_ldEA (dv := field0) (off := 1) (cs := atomL _) fieldL_len (hr.fields.sl.hp hS) underlying41 rfl rfl rfl (by omega) (field_atE _)) <| A1 15 <| AO.callP rfl (gsome rfl (bR (c := false) h56)) rfl hH53 sR (c_clearanceref15_isAtom _ _ _ (by omega) _ (hs.mono hH53.kw)) (run_call3 call63 rfl rfl rfl) <| fun w57 hH58 => AG 16 rfl rfl (bR (c := false) h56) (hH58.sub sR) (fun w hS => run_not rfl) <| AQ 17 rfl (hH58.sub sR) (run_pickF (bR (c := false) h56) (v := B _) rfl) <| AD <| CW.cond rfl (fun h61 => ?_) (fun h61 => ?_)
     ·refine SR <| va (v := B false) rfl <| RL.nil <| CW.ret <| outP1 Tryz.results62 (congrArg B ?_) hH58.below
      exact (row_no3 h0 ‹k < _› (field_no2 (nt ‹(!atomOk s lat _) = true›))).symm
     ·refine CW.skip <| CW.region <| vm e8_41 <| V (run_add rfl rfl (by omega)) <| aI rfl <| RL.nil <| ?_
      refine ⟨(k + 1, m ++ [(r.fields.getD k.toNat field0).name], v47), ?_, fr41.u4.u4.u4.u4.u4.u4.u4.u4.u4, (Hp.conv (hH58.sub (sQ sR)) (by simp)), rfl, (congrArg I (by rfl)), ?_, ?_, ?_, ?_, ?_⟩
      ·((try dsimp only); omega)
      ·omega
      ·omega
      ·rw [fnames_next h0 ‹k < _›, ← hm]
      ·simp only [List.length_append, List.length_singleton]; omega
      ·exact fun j a b => if e : j = k then e ▸ field_yes (nf ‹(!nameR _) = false›) (nf ‹(!atomOk s lat _) = false›) else hg j a (by omega)
   ·refine CW.exit (id := 0) rfl <| SR <| vm e7_41 <| RL.callP rfl hH41 (c_clearanceref02_Twice _ _  _ (hH41.sl (i := 0) rfl)) (run_call1 call37 rfl) <| fun w62 hH63 => V (run_lss rfl rfl) <| aB rfl <| RL.nil <| CW.ret <| outP1 Tryz.results62 (congrArg B ?_) hH63.below
    (rw [row_yes hsz htl ‹¬ k < _› hg, show m = fnames r by rw [hm, List.take_of_length_le (by omega)]; rfl])
theorem c_fit_isCode (s : Scp) (lat : Int) (v : Value) (l : List InsR) (hlat : 0 ≤ lat ∧ lat < s.lats.length) (w : World) (hc : Sl w v 10 l.length (l.flatMap insL)) (hs : ScpV (Kw w) s) (hT : Tab w) : Calls Tryz.prog 59 #[.agg (scpC s), I lat, v] w (Pure (B (codeOk s lat l)) w) := by
 have hm1 := hs.lats.sl.small
 have hm2 := hs.vars.sl.small
 unfold maxLen at hm1 hm2
 have hm3 := hc.small
 unfold maxLen at hm3
 refine enter Tryz.func59 rfl Tryz.ntmps59 rfl <| have hH := Hp.start w; SR <| RL.new rfl hH (f := fun b => (.pointer (some ⟨b, 0, none⟩))) (run_box (v := .agg _) rfl) <| fun b3 w1 hH2 => va (v := B false) rfl <| RL.nil <| CW.seq <| SR <| ?_
 refine V (run_move (by conv => lhs; whnf)) ?_
 refine V (run_lenSl (hc.hp hH2) rfl underlying36 rfl) <| vm (v := I 0) rfl <| RL.nil <| CW.block <| CW.loop (G := Int) (fun k s' w' => (Fr (6 :: (8 :: (rg 11 31 []))) _ s') ∧ (Hp w w' _) ∧ (s' 11 = I k) ∧ (0 ≤ k) ∧ (k ≤ l.length) ∧ (∀ j : Int, 0 ≤ j → j < k → insOk s lat (l.getD j.toNat ins0) = true)) (fun k => (l.length - k).toNat) (0) ⟨Fr.refl _ _, hH2, rfl, (by omega), (by omega), fun j a b => absurd b (by omega)⟩ <| ?_
 rintro k sg4 w4 ⟨fr4, hH4, e11_4, h0, hk, hg⟩
 have e1_4 := fr4.ii 1 rfl rfl
 have e2_4 := (fr4 2 rfl).trans (by conv => lhs; whnf)
 have e3_4 := fr4.pp 3 rfl rfl
 have e9_4 := (fr4 9 rfl).trans (by conv => lhs; whnf)
 have e10_4 := fr4.ii 10 rfl rfl
 refine SR <| V (run_lss e11_4 e10_4) <| RL.nil <| CW.seq <| CW.condP rfl (fun h6 => ?_) (fun h6 => ?_)
 ·refine CW.skip <| CW.seq <| CW.block <| SR <| V (run_indexAddrS (hc.hp hH4) underlying36 sizeOf91 e9_4 e11_4 (by omega)) <| V (run_ldE (dv := ins0) insL_len (hc.hp hH4) underlying91 rfl rfl rfl (by omega)) <| RL.new rfl hH4 (f := fun b => (.pointer (some ⟨b, 0, none⟩))) (run_alloc zero_ins) <| fun b9 w7 hH8 => RL.set hH8 (i := 0) rfl (run_stW (c' := (insL _).toArray) rfl rfl rfl (insL_one _) (hH8.blk (i := 0) rfl) rfl) <| fun w10 hH11 => ?_
  simp only [z2] at hH11
  refine RL.nil <| CW.seq <| SR <| V (fA underlying91 0 rfl sizeOf3 rfl) <| V (run_ld underlying3 rfl rfl (hH11.cell (i := 0) rfl (v := I _) rfl)) <| V (run_eql rfl rfl) <| mB rfl <| RL.splitP (dj := 18) rfl (fun h13 => ?_) (fun h13 => ?_)
  ·refine gT rfl (bT h13) <| V (run_ldA (cs := scpL _) underlying25 rfl rfl e3_4 (rangeAt_cells (hH11.blk (i := 1) rfl))) <| gT rfl (bT h13) <| V (fA underlying91 1 rfl sizeOf3 rfl) <| gT rfl (bT h13) <| V (run_ld underlying3 rfl rfl (hH11.cell (i := 0) rfl (v := I _) rfl)) <| gT rfl (bT h13) <| vm e1_4 <| gT rfl (bT h13) <| RL.callP rfl hH11 (c_fit_is _ _ _ _  _ (hs.mono hH11.kw)) (run_call4 call57 rfl rfl (show _ = I 1 from rfl) rfl) <| fun w14 hH15 => gT rfl (bT h13) <| V (run_not rfl) <| V (run_pickT (bT h13) (v := B _) rfl) <| RL.nil <| CW.cond rfl (fun h18 => ?_) (fun h18 => ?_)
   ·refine SR <| va (v := B false) rfl <| RL.nil <| CW.ret <| outP1 Tryz.results59 (congrArg B ?_) hH15.below
    exact (code_no1 h0 ‹k < _› (ins_no1 ‹(List.getD l _ _).op = 1› (nt ‹(!kdOk s _ 1 lat) = true›))).symm
   ·refine CW.skip <| CW.seq <| CW.regionD (by kernel_rfl) hH15 <| fun w19 hH20 => have zh20 := hH20.sub sR; AQ 0 rfl zh20 (fA underlying91 0 rfl sizeOf3 rfl) <| AT 1 rfl zh20 (fun w hS => run_ld underlying3 rfl rfl (hS.cell (i := 0) rfl (v := I _) rfl)) <| AQ 2 rfl zh20 (run_eql rfl rfl) <| AQ 3 rfl zh20 (mV (B _) rfl) <| AN.splitP (dj := 29) rfl (fun h22 => ?_) (fun h22 => ?_)
    ·refine AG 4 rfl rfl (bT h22) (hH20.sub sR) (fun w hS => fA underlying25 0 rfl sizeOf22 e3_4) <| AG 5 rfl rfl (bT h22) (hH20.sub sR) (fun w hS => run_ldV (hs.lats.sl.hp hS) underlying22 rfl rfl (hS.cell (i := 1) rfl rfl)) <| AG 6 rfl rfl (bT h22) (hH20.sub sR) (fun w hS => run_move e1_4) <| AG 7 rfl rfl (bT h22) (hH20.sub sR) (fun w hS => run_indexAddrS (hs.lats.sl.hp hS) underlying22 sizeOf67 rfl rfl (by omega)) <| AG 8 rfl rfl (bT h22) (hH20.sub sR) (fun w hS => fA underlying67 1 rfl sizeOf65 rfl) <| AG 9 rfl rfl (bT h22) (hH20.sub sR) (fun w hS => run_ldEA (dv := lat0) (off := 1) (cs := shpL _) latL_len (hs.lats.sl.hp hS) underlying65 rfl rfl rfl (by omega) (lat_shp _)) <| AG 10 rfl rfl (bT h22) (hH20.sub sR) (fun w hS => fA underlying91 2 rfl sizeOf39 rfl) <| AG 11 rfl rfl (bT h22) (hH20.sub sR) (fun w hS => run_ldElR underlying39 rfl rfl rfl (hS.blk (i := 0) rfl) (ins_elB _)) <| A1 12 <| AO.callP rfl (gsome rfl (bT h22)) rfl hH20 sR (c_shape_Fits _ _  _ ((hs.at (by omega) (by omega)).mono hH20.kw) (hT.hp hH20)) (run_call2 call38 rfl rfl) <| fun w23 hH24 => AG 13 rfl rfl (bT h22) (hH24.sub sR) (fun w hS => run_not rfl) <| AQ 14 rfl (hH24.sub sR) (run_pickT (bT h22) (v := B _) rfl) <| AD <| CW.cond rfl (fun h27 => ?_) (fun h27 => ?_)
     ·refine SR <| va (v := B false) rfl <| RL.nil <| CW.ret <| outP1 Tryz.results59 (congrArg B ?_) hH24.below
      exact (code_no1 h0 ‹k < _› (ins_no2 ‹(List.getD l _ _).op = 2› (nt ‹(!fitsS _ _) = true›))).symm
     ·refine CW.skip <| CW.region <| V (run_add e11_4 rfl (by omega)) <| mI rfl <| RL.nil <| ?_
      refine ⟨k + 1, ?_, fr4.u4.u4.u4.u4.u4.u4.u4.u4, (hH24.sub (sQ sR)), (congrArg I (by rfl)), ?_, ?_, ?_⟩
      ·((try dsimp only); omega)
      ·omega
      ·omega
      ·exact fun j a b => if e : j = k then e ▸ ins_yes (by exact .inr (nf ‹(!kdOk s _ 1 lat) = false›)) (by exact .inr (nf ‹(!fitsS _ _) = false›)) else hg j a (by omega)
    ·refine AK 4 rfl rfl (bF h22) (hH20.sub sR) <| AK 5 rfl rfl (bF h22) (hH20.sub sR) <| AK 6 rfl rfl (bF h22) (hH20.sub sR) <| AK 7 rfl rfl (bF h22) (hH20.sub sR) <| AK 8 rfl rfl (bF h22) (hH20.sub sR) <| AK 9 rfl rfl (bF h22) (hH20.sub sR) <| AK 10 rfl rfl (bF h22) (hH20.sub sR) <| AK 11 rfl rfl (bF h22) (hH20.sub sR) <| AK 12 rfl rfl (bF h22) (hH20.sub sR) <| AK 13 rfl rfl (bF h22) (hH20.sub sR) <| AQ 14 rfl zh20 (run_pickF (bF h22) (v := B false) rfl) <| AD <| CW.condF rfl <| CW.skip <| CW.region <| V (run_add e11_4 rfl (by omega)) <| mI rfl <| RL.nil <| ?_
     refine ⟨k + 1, ?_, fr4.u4.u4.u4.u4.u4.u4.u4.u4, (hH20.sub (sQ sR)), (congrArg I (by rfl)), ?_, ?_, ?_⟩
     ·((try dsimp only); omega)
     ·omega
     ·omega
     ·exact fun j a b => if e : j = k then e ▸ ins_yes (by exact .inr (nf ‹(!kdOk s _ 1 lat) = false›)) (by exact .inl ‹¬ (List.getD l _ _).op = 2›) else hg j a (by omega)
  ·refine gF rfl (bF h13) <| gF rfl (bF h13) <| gF rfl (bF h13) <| gF rfl (bF h13) <| gF rfl (bF h13) <| gF rfl (bF h13) <| V (run_pickF (bF h13) (v := B false) rfl) <| RL.nil <| CW.condF rfl <| CW.skip <| CW.seq <| CW.regionD (by kernel_rfl) hH11 <| fun w28 hH29 => have zh29 := hH29.sub sR; AQ 0 rfl zh29 (fA underlying91 0 rfl sizeOf3 rfl) <| AT 1 rfl zh29 (fun w hS => run_ld underlying3 rfl rfl (hS.cell (i := 0) rfl (v := I _) rfl)) <| AQ 2 rfl zh29 (run_eql rfl rfl) <| AQ 3 rfl zh29 (mV (B _) rfl) <| AN.splitP (dj := 29) rfl (fun h31 => ?_) (fun h31 => ?_)
   ·refine AG 4 rfl rfl (bT h31) (hH29.sub sR) (fun w hS => fA underlying25 0 rfl sizeOf22 e3_4) <| AG 5 rfl rfl (bT h31) (hH29.sub sR) (fun w hS => run_ldV (hs.lats.sl.hp hS) underlying22 rfl rfl (hS.cell (i := 1) rfl rfl)) <| AG 6 rfl rfl (bT h31) (hH29.sub sR) (fun w hS => run_move e1_4) <| AG 7 rfl rfl (bT h31) (hH29.sub sR) (fun w hS => run_indexAddrS (hs.lats.sl.hp hS) underlying22 sizeOf67 rfl rfl (by omega)) <| AG 8 rfl rfl (bT h31) (hH29.sub sR) (fun w hS => fA underlying67 1 rfl sizeOf65 rfl) <| AG 9 rfl rfl (bT h31) (hH29.sub sR) (fun w hS => run_ldEA (dv := lat0) (off := 1) (cs := shpL _) latL_len (hs.lats.sl.hp hS) underlying65 rfl rfl rfl (by omega) (lat_shp _)) <| AG 10 rfl rfl (bT h31) (hH29.sub sR) (fun w hS => fA underlying91 2 rfl sizeOf39 rfl) <| AG 11 rfl rfl (bT h31) (hH29.sub sR) (fun w hS => run_ldElR underlying39 rfl rfl rfl (hS.blk (i := 0) rfl) (ins_elB _)) <| A1 12 <| AO.callP rfl (gsome rfl (bT h31)) rfl hH29 sR (c_shape_Fits _ _  _ ((hs.at (by omega) (by omega)).mono hH29.kw) (hT.hp hH29)) (run_call2 call38 rfl rfl) <| fun w32 hH33 => AG 13 rfl rfl (bT h31) (hH33.sub sR) (fun w hS => run_not rfl) <| AQ 14 rfl (hH33.sub sR) (run_pickT (bT h31) (v := B _) rfl) <| AD <| CW.cond rfl (fun h36 => ?_) (fun h36 => ?_)
    ·refine SR <| va (v := B false) rfl <| RL.nil <| CW.ret <| outP1 Tryz.results59 (congrArg B ?_) hH33.below
     exact (code_no1 h0 ‹k < _› (ins_no2 ‹(List.getD l _ _).op = 2› (nt ‹(!fitsS _ _) = true›))).symm
    ·refine CW.skip <| CW.region <| V (run_add e11_4 rfl (by omega)) <| mI rfl <| RL.nil <| ?_
     refine ⟨k + 1, ?_, fr4.u4.u4.u4.u4.u4.u4.u4.u4, (hH33.sub (sQ sR)), (congrArg I (by rfl)), ?_, ?_, ?_⟩
     ·((try dsimp only); omega)
     ·omega
     ·omega
     ·exact fun j a b => if e : j = k then e ▸ ins_yes (by exact .inl ‹¬ (List.getD l _ _).op = 1›) (by exact .inr (nf ‹(!fitsS _ _) = false›)) else hg j a (by omega)
   ·refine AK 4 rfl rfl (bF h31) (hH29.sub sR) <| AK 5 rfl rfl (bF h31) (hH29.sub sR) <| AK 6 rfl rfl (bF h31) (hH29.sub sR) <| AK 7 rfl rfl (bF h31) (hH29.sub sR) <| AK 8 rfl rfl (bF h31) (hH29.sub sR) <| AK 9 rfl rfl (bF h31) (hH29.sub sR) <| AK 10 rfl rfl (bF h31) (hH29.sub sR) <| AK 11 rfl rfl (bF h31) (hH29.sub sR) <| AK 12 rfl rfl (bF h31) (hH29.sub sR) <| AK 13 rfl rfl (bF h31) (hH29.sub sR) <| AQ 14 rfl zh29 (run_pickF (bF h31) (v := B false) rfl) <| AD <| CW.condF rfl <| CW.skip <| CW.region <| V (run_add e11_4 rfl (by omega)) <| mI rfl <| RL.nil <| ?_
    refine ⟨k + 1, ?_, fr4.u4.u4.u4.u4.u4.u4.u4.u4, (hH29.sub (sQ sR)), (congrArg I (by rfl)), ?_, ?_, ?_⟩
    ·((try dsimp only); omega)
    ·omega
    ·omega
    ·exact fun j a b => if e : j = k then e ▸ ins_yes (by exact .inl ‹¬ (List.getD l _ _).op = 1›) (by exact .inl ‹¬ (List.getD l _ _).op = 2›) else hg j a (by omega)
 ·refine CW.exit (id := 0) rfl <| SR <| vm e2_4 <| RL.callP rfl hH4 (c_code_Right _ _  _ (hc.hp hH4)) (run_call1 call44 rfl) <| fun w37 hH38 => aB rfl <| RL.nil <| CW.ret <| outP1 Tryz.results59 (congrArg B ?_) hH38.below
  (rw [code_yes ‹¬ k < _› hg])
theorem c_fit_Right (s : Scp) (x : AssR) (w : World) (hs : ScpV (Kw w) s) (hx : AssV (Kw w) x) (hT : Tab w) : Calls Tryz.prog 33 #[.agg (scpC s), .agg (assL x).toArray] w (Pure (B (assOk s x)) w) := by
 have hm1 := hs.lats.sl.small
 have hm2 := hs.vars.sl.small
 unfold maxLen at hm1 hm2
 have hm3 := hx.code.small
 unfold maxLen at hm3
 refine enter Tryz.func33 rfl Tryz.ntmps33 rfl <| have hH := Hp.start w; SR <| RL.new rfl hH (f := fun b => (.pointer (some ⟨b, 0, none⟩))) (run_box (v := .agg _) rfl) <| fun b3 w1 hH2 => RL.new rfl hH2 (f := fun b => (.pointer (some ⟨b, 0, none⟩))) (run_box (v := .agg _) rfl) <| fun b6 w4 hH5 => va (v := B false) rfl <| RL.nil <| SR <| V (fA underlying46 1 rfl sizeOf3 rfl) <| V (run_ld underlying3 rfl rfl (hH5.cell (i := 0) rfl (v := I _) rfl)) <| V (run_geq rfl rfl) <| mB rfl <| RL.splitP (dj := 9) rfl (fun h8 => ?_) (fun h8 => ?_)
 ·refine gT rfl (bT h8) <| V (fA underlying46 1 rfl sizeOf3 rfl) <| gT rfl (bT h8) <| V (run_ld underlying3 rfl rfl (hH5.cell (i := 0) rfl (v := I _) rfl)) <| gT rfl (bT h8) <| V (fA underlying25 0 rfl sizeOf22 rfl) <| gT rfl (bT h8) <| V (run_ldV (hs.lats.sl.hp hH5) underlying22 rfl rfl (hH5.cell (i := 1) rfl rfl)) <| gT rfl (bT h8) <| V (run_lenSl (hs.lats.sl.hp hH5) rfl underlying22 rfl) <| gT rfl (bT h8) <| V (run_lss rfl rfl) <| V (run_pickT (bT h8) (v := B _) rfl) <| aB rfl <| RL.nil <| CW.seq <| SR <| V (fA underlying46 0 rfl sizeOf3 rfl) <| V (run_ld underlying3 rfl rfl (hH5.cell (i := 0) rfl (v := I _) rfl)) <| RL.nil <| CW.block <| SR <| V (run_eql rfl rfl) <| aB rfl <| RL.nil <| CW.condP rfl (fun h11 => ?_) (fun h11 => ?_)
  ·refine SR <| V (run_ldA (cs := scpL _) underlying25 rfl rfl rfl (rangeAt_cells (hH5.blk (i := 1) rfl))) <| V (fA underlying46 16 rfl sizeOf3 rfl) <| V (run_ld underlying3 rfl rfl (hH5.cell (i := 0) rfl (v := I _) rfl)) <| V (fA underlying46 1 rfl sizeOf3 rfl) <| V (run_ld underlying3 rfl rfl (hH5.cell (i := 0) rfl (v := I _) rfl)) <| RL.callP rfl hH5 (c_fit_is _ _ _ _  _ (hs.mono hH5.kw)) (run_call4 call57 rfl rfl (show _ = I 2 from rfl) rfl) <| fun w12 hH13 => mB rfl <| RL.split (dj := 27) rfl (fun h15 => ?_) (fun h15 => ?_)
   ·refine gT rfl (bR (c := true) h15) <| V (fA underlying46 17 rfl sizeOf9 rfl) <| gT rfl (bR (c := true) h15) <| V (run_ld underlying9 rfl rfl (hH13.cell (i := 0) rfl (v := .string _) rfl)) <| gT rfl (bR (c := true) h15) <| RL.callP rfl hH13 (c_name_Right _  _) (run_call1 call54 rfl) <| fun w16 hH17 => V (run_pickT (bR (c := true) h15) (v := B _) rfl) <| aB rfl <| RL.nil <| CW.ret <| outP1 Tryz.results33 (congrArg B ?_) hH17.below
    (rw [ass_10 ‹x.op = 10›, ‹kdOk s x.var 2 x.lat = true›, Bool.true_and]; done)
   ·refine gF rfl (bR (c := false) h15) <| gF rfl (bR (c := false) h15) <| gF rfl (bR (c := false) h15) <| V (run_pickF (bR (c := false) h15) (v := B false) rfl) <| aB rfl <| RL.nil <| CW.ret <| outP1 Tryz.results33 (congrArg B ?_) hH13.below
    (rw [ass_10 ‹x.op = 10›, ‹kdOk s x.var 2 x.lat = false›, Bool.false_and]; done)
  ·refine SR <| V (run_eql rfl rfl) <| aB rfl <| RL.nil <| CW.condP rfl (fun h20 => ?_) (fun h20 => ?_)
   ·refine SR <| mB rfl <| mB rfl <| RL.splitP (dj := 35) rfl (fun h21 => ?_) (fun h21 => ?_)
    ·refine gT rfl (bT h21) <| V (run_ldA (cs := scpL _) underlying25 rfl rfl rfl (rangeAt_cells (hH5.blk (i := 1) rfl))) <| gT rfl (bT h21) <| V (fA underlying46 1 rfl sizeOf3 rfl) <| gT rfl (bT h21) <| V (run_ld underlying3 rfl rfl (hH5.cell (i := 0) rfl (v := I _) rfl)) <| gT rfl (bT h21) <| V (fA underlying46 12 rfl sizeOf44 rfl) <| gT rfl (bT h21) <| V (run_ldSub (sub := rtmL _) underlying44 rfl rfl rfl (hH5.blk (i := 0) rfl) (ass_aB _)) <| gT rfl (bT h21) <| RL.callP rfl hH5 (c_fit_isRow _ _ _ (by omega) _ (hs.mono hH5.kw) (hx.a.mono hH5.kw) (hT.hp hH5)) (run_call3 call58 rfl rfl rfl) <| fun w22 hH23 => V (run_pickT (bT h21) (v := B _) rfl) <| mB rfl <| RL.split (dj := 43) rfl (fun h25 => ?_) (fun h25 => ?_)
     ·refine gT rfl (bR (c := true) h25) <| V (run_ldA (cs := scpL _) underlying25 rfl rfl rfl (rangeAt_cells (hH23.blk (i := 1) rfl))) <| gT rfl (bR (c := true) h25) <| V (fA underlying46 1 rfl sizeOf3 rfl) <| gT rfl (bR (c := true) h25) <| V (run_ld underlying3 rfl rfl (hH23.cell (i := 0) rfl (v := I _) rfl)) <| gT rfl (bR (c := true) h25) <| V (fA underlying46 14 rfl sizeOf44 rfl) <| gT rfl (bR (c := true) h25) <| V (run_ldSub (sub := rtmL _) underlying44 rfl rfl rfl (hH23.blk (i := 0) rfl) (ass_bB _)) <| gT rfl (bR (c := true) h25) <| RL.callP rfl hH23 (c_fit_isRow _ _ _ (by omega) _ (hs.mono hH23.kw) (hx.b.mono hH23.kw) (hT.hp hH23)) (run_call3 call58 rfl rfl rfl) <| fun w26 hH27 => V (run_pickT (bR (c := true) h25) (v := B _) rfl) <| aB rfl <| RL.nil <| CW.ret <| outP1 Tryz.results33 (congrArg B ?_) hH27.below
      (rw [ass_9 ‹x.op = 9› (show 0 ≤ x.lat ∧ x.lat < s.lats.length by omega), ‹rowOk s x.lat x.a = true›, Bool.true_and]; done)
     ·refine gF rfl (bR (c := false) h25) <| gF rfl (bR (c := false) h25) <| gF rfl (bR (c := false) h25) <| gF rfl (bR (c := false) h25) <| gF rfl (bR (c := false) h25) <| gF rfl (bR (c := false) h25) <| V (run_pickF (bR (c := false) h25) (v := B false) rfl) <| aB rfl <| RL.nil <| CW.ret <| outP1 Tryz.results33 (congrArg B ?_) hH23.below
      (rw [ass_9 ‹x.op = 9› (show 0 ≤ x.lat ∧ x.lat < s.lats.length by omega), ‹rowOk s x.lat x.a = false›, Bool.false_and]; done)
    ·refine gF rfl (bF h21) <| gF rfl (bF h21) <| gF rfl (bF h21) <| gF rfl (bF h21) <| gF rfl (bF h21) <| gF rfl (bF h21) <| V (run_pickF (bF h21) (v := B false) rfl) <| mB rfl <| gF rfl rfl <| gF rfl rfl <| gF rfl rfl <| gF rfl rfl <| gF rfl rfl <| gF rfl rfl <| V (run_pickF rfl (v := B false) rfl) <| aB rfl <| RL.nil <| CW.ret <| outP1 Tryz.results33 (congrArg B ?_) hH5.below
     (rw [ass_no (by omega) (by omega)]; done)
   ·refine SR <| V (run_eql rfl rfl) <| aB rfl <| RL.nil <| CW.condP rfl (fun h30 => ?_) (fun h30 => ?_)
    ·refine SR <| mB rfl <| mB rfl <| RL.splitP (dj := 54) rfl (fun h31 => ?_) (fun h31 => ?_)
     ·refine gT rfl (bT h31) <| V (run_ldA (cs := scpL _) underlying25 rfl rfl rfl (rangeAt_cells (hH5.blk (i := 1) rfl))) <| gT rfl (bT h31) <| V (fA underlying46 1 rfl sizeOf3 rfl) <| gT rfl (bT h31) <| V (run_ld underlying3 rfl rfl (hH5.cell (i := 0) rfl (v := I _) rfl)) <| gT rfl (bT h31) <| V (fA underlying46 2 rfl sizeOf36 rfl) <| gT rfl (bT h31) <| V (run_ldV (hx.code.sl.hp hH5) underlying36 rfl rfl (hH5.cell (i := 0) rfl rfl)) <| gT rfl (bT h31) <| RL.callP rfl hH5 (c_fit_isCode _ _ _ _ (by omega) _ (hx.code.sl.hp hH5) (hs.mono hH5.kw) (hT.hp hH5)) (run_call3 call59 rfl rfl rfl) <| fun w32 hH33 => V (run_pickT (bT h31) (v := B _) rfl) <| mB rfl <| RL.split (dj := 62) rfl (fun h35 => ?_) (fun h35 => ?_)
      ·refine gT rfl (bR (c := true) h35) <| V (run_ldA (cs := scpL _) underlying25 rfl rfl rfl (rangeAt_cells (hH33.blk (i := 1) rfl))) <| gT rfl (bR (c := true) h35) <| V (fA underlying46 1 rfl sizeOf3 rfl) <| gT rfl (bR (c := true) h35) <| V (run_ld underlying3 rfl rfl (hH33.cell (i := 0) rfl (v := I _) rfl)) <| gT rfl (bR (c := true) h35) <| V (fA underlying46 3 rfl sizeOf41 rfl) <| gT rfl (bR (c := true) h35) <| V (run_ldSub (sub := atomL _) underlying41 rfl rfl rfl (hH33.blk (i := 0) rfl) (ass_toB _)) <| gT rfl (bR (c := true) h35) <| RL.callP rfl hH33 (c_fit_isAtom _ _ _ (by omega) _ (hs.mono hH33.kw) (hT.hp hH33)) (run_call3 call60 rfl rfl rfl) <| fun w36 hH37 => V (run_pickT (bR (c := true) h35) (v := B _) rfl) <| aB rfl <| RL.nil <| CW.ret <| outP1 Tryz.results33 (congrArg B ?_) hH37.below
       (rw [ass_8 ‹x.op = 8› (show 0 ≤ x.lat ∧ x.lat < s.lats.length by omega), ‹codeOk s x.lat x.code = true›, Bool.true_and]; done)
      ·refine gF rfl (bR (c := false) h35) <| gF rfl (bR (c := false) h35) <| gF rfl (bR (c := false) h35) <| gF rfl (bR (c := false) h35) <| gF rfl (bR (c := false) h35) <| gF rfl (bR (c := false) h35) <| V (run_pickF (bR (c := false) h35) (v := B false) rfl) <| aB rfl <| RL.nil <| CW.ret <| outP1 Tryz.results33 (congrArg B ?_) hH33.below
       (rw [ass_8 ‹x.op = 8› (show 0 ≤ x.lat ∧ x.lat < s.lats.length by omega), ‹codeOk s x.lat x.code = false›, Bool.false_and]; done)
     ·refine gF rfl (bF h31) <| gF rfl (bF h31) <| gF rfl (bF h31) <| gF rfl (bF h31) <| gF rfl (bF h31) <| gF rfl (bF h31) <| V (run_pickF (bF h31) (v := B false) rfl) <| mB rfl <| gF rfl rfl <| gF rfl rfl <| gF rfl rfl <| gF rfl rfl <| gF rfl rfl <| gF rfl rfl <| V (run_pickF rfl (v := B false) rfl) <| aB rfl <| RL.nil <| CW.ret <| outP1 Tryz.results33 (congrArg B ?_) hH5.below
      (rw [ass_no (by omega) (by omega)]; done)
    ·refine CW.skip <| SR <| va (v := B false) rfl <| RL.nil <| CW.ret <| outP1 Tryz.results33 (congrArg B ?_) hH5.below
     (rw [ass_x (by omega) (by omega) (by omega)]; done)
 ·refine gF rfl (bF h8) <| gF rfl (bF h8) <| gF rfl (bF h8) <| gF rfl (bF h8) <| gF rfl (bF h8) <| gF rfl (bF h8) <| V (run_pickF (bF h8) (v := B false) rfl) <| aB rfl <| RL.nil <| CW.seq <| SR <| V (fA underlying46 0 rfl sizeOf3 rfl) <| V (run_ld underlying3 rfl rfl (hH5.cell (i := 0) rfl (v := I _) rfl)) <| RL.nil <| CW.block <| SR <| V (run_eql rfl rfl) <| aB rfl <| RL.nil <| CW.condP rfl (fun h40 => ?_) (fun h40 => ?_)
  ·refine SR <| V (run_ldA (cs := scpL _) underlying25 rfl rfl rfl (rangeAt_cells (hH5.blk (i := 1) rfl))) <| V (fA underlying46 16 rfl sizeOf3 rfl) <| V (run_ld underlying3 rfl rfl (hH5.cell (i := 0) rfl (v := I _) rfl)) <| V (fA underlying46 1 rfl sizeOf3 rfl) <| V (run_ld underlying3 rfl rfl (hH5.cell (i := 0) rfl (v := I _) rfl)) <| RL.callP rfl hH5 (c_fit_is _ _ _ _  _ (hs.mono hH5.kw)) (run_call4 call57 rfl rfl (show _ = I 2 from rfl) rfl) <| fun w41 hH42 => mB rfl <| RL.split (dj := 27) rfl (fun h44 => ?_) (fun h44 => ?_)
   ·refine gT rfl (bR (c := true) h44) <| V (fA underlying46 17 rfl sizeOf9 rfl) <| gT rfl (bR (c := true) h44) <| V (run_ld underlying9 rfl rfl (hH42.cell (i := 0) rfl (v := .string _) rfl)) <| gT rfl (bR (c := true) h44) <| RL.callP rfl hH42 (c_name_Right _  _) (run_call1 call54 rfl) <| fun w45 hH46 => V (run_pickT (bR (c := true) h44) (v := B _) rfl) <| aB rfl <| RL.nil <| CW.ret <| outP1 Tryz.results33 (congrArg B ?_) hH46.below
    (rw [ass_10 ‹x.op = 10›, ‹kdOk s x.var 2 x.lat = true›, Bool.true_and]; done)
   ·refine gF rfl (bR (c := false) h44) <| gF rfl (bR (c := false) h44) <| gF rfl (bR (c := false) h44) <| V (run_pickF (bR (c := false) h44) (v := B false) rfl) <| aB rfl <| RL.nil <| CW.ret <| outP1 Tryz.results33 (congrArg B ?_) hH42.below
    (rw [ass_10 ‹x.op = 10›, ‹kdOk s x.var 2 x.lat = false›, Bool.false_and]; done)
  ·refine SR <| V (run_eql rfl rfl) <| aB rfl <| RL.nil <| CW.condP rfl (fun h49 => ?_) (fun h49 => ?_)
   ·refine SR <| mB rfl <| mB rfl <| gF rfl rfl <| gF rfl rfl <| gF rfl rfl <| gF rfl rfl <| gF rfl rfl <| gF rfl rfl <| V (run_pickF rfl (v := B false) rfl) <| mB rfl <| gF rfl rfl <| gF rfl rfl <| gF rfl rfl <| gF rfl rfl <| gF rfl rfl <| gF rfl rfl <| V (run_pickF rfl (v := B false) rfl) <| aB rfl <| RL.nil <| CW.ret <| outP1 Tryz.results33 (congrArg B ?_) hH5.below
    (rw [ass_no (by omega) (by omega)]; done)
   ·refine SR <| V (run_eql rfl rfl) <| aB rfl <| RL.nil <| CW.condP rfl (fun h51 => ?_) (fun h51 => ?_)
    ·refine SR <| mB rfl <| mB rfl <| gF rfl rfl <| gF rfl rfl <| gF rfl rfl <| gF rfl rfl <| gF rfl rfl <| gF rfl rfl <| V (run_pickF rfl (v := B false) rfl) <| mB rfl <| gF rfl rfl <| gF rfl rfl <| gF rfl rfl <| gF rfl rfl <| gF rfl rfl <| gF rfl rfl <| V (run_pickF rfl (v := B false) rfl) <| aB rfl <| RL.nil <| CW.ret <| outP1 Tryz.results33 (congrArg B ?_) hH5.below
     (rw [ass_no (by omega) (by omega)]; done)
    ·refine CW.skip <| SR <| va (v := B false) rfl <| RL.nil <| CW.ret <| outP1 Tryz.results33 (congrArg B ?_) hH5.below
     (rw [ass_no (by omega) (by omega)]; done)
set_option maxHeartbeats 1000000 in
theorem c_clearanceref15_Right (s : Scp) (x : AssR) (w : World) (hs : ScpV (Kw w) s) (hx : AssV (Kw w) x) : Calls Tryz.prog 34 #[.agg (scpC s), .agg (assL x).toArray] w (Pure (B (assOk s x)) w) := by
 have hm1 := hs.lats.sl.small
 have hm2 := hs.vars.sl.small
 unfold maxLen at hm1 hm2
 have hm3 := hx.code.small
 unfold maxLen at hm3
 refine enter Tryz.func34 rfl Tryz.ntmps34 rfl <| have hH := Hp.start w; SR <| RL.new rfl hH (f := fun b => (.pointer (some ⟨b, 0, none⟩))) (run_box (v := .agg _) rfl) <| fun b3 w1 hH2 => RL.new rfl hH2 (f := fun b => (.pointer (some ⟨b, 0, none⟩))) (run_box (v := .agg _) rfl) <| fun b6 w4 hH5 => va (v := B false) rfl <| RL.nil <| CW.seq <| SR <| V (fA underlying46 0 rfl sizeOf3 rfl) <| V (run_ld underlying3 rfl rfl (hH5.cell (i := 0) rfl (v := I _) rfl)) <| V (run_eql rfl rfl) <| RL.nil <| CW.condP rfl (fun h8 => ?_) (fun h8 => ?_)
 ·refine SR <| V (run_ldA (cs := scpL _) underlying25 rfl rfl rfl (rangeAt_cells (hH5.blk (i := 1) rfl))) <| V (fA underlying46 16 rfl sizeOf3 rfl) <| V (run_ld underlying3 rfl rfl (hH5.cell (i := 0) rfl (v := I _) rfl)) <| V (fA underlying46 1 rfl sizeOf3 rfl) <| V (run_ld underlying3 rfl rfl (hH5.cell (i := 0) rfl (v := I _) rfl)) <| RL.callP rfl hH5 (c_clearanceref15_Kind _ _ _ _  _ (hs.mono hH5.kw)) (run_call4 call61 rfl rfl (show _ = I 2 from rfl) rfl) <| fun w9 hH10 => mB rfl <| RL.split (dj := 16) rfl (fun h12 => ?_) (fun h12 => ?_)
  ·refine gT rfl (bR (c := true) h12) <| V (fA underlying46 17 rfl sizeOf9 rfl) <| gT rfl (bR (c := true) h12) <| V (run_ld underlying9 rfl rfl (hH10.cell (i := 0) rfl (v := .string _) rfl)) <| gT rfl (bR (c := true) h12) <| RL.callP rfl hH10 (c_clearanceref02_Right _  _) (run_call1 call36 rfl) <| fun w13 hH14 => V (run_pickT (bR (c := true) h12) (v := B _) rfl) <| aB rfl <| RL.nil <| CW.ret <| outP1 Tryz.results34 (congrArg B ?_) hH14.below
   (rw [ass_10 ‹x.op = 10›, ‹kdOk s x.var 2 x.lat = true›, Bool.true_and]; done)
  ·refine gF rfl (bR (c := false) h12) <| gF rfl (bR (c := false) h12) <| gF rfl (bR (c := false) h12) <| V (run_pickF (bR (c := false) h12) (v := B false) rfl) <| aB rfl <| RL.nil <| CW.ret <| outP1 Tryz.results34 (congrArg B ?_) hH10.below
   (rw [ass_10 ‹x.op = 10›, ‹kdOk s x.var 2 x.lat = false›, Bool.false_and]; done)
 ·refine CW.skip <| CW.seq <| SR <| V (fA underlying46 1 rfl sizeOf3 rfl) <| V (run_ld underlying3 rfl rfl (hH5.cell (i := 0) rfl (v := I _) rfl)) <| V (run_lss rfl rfl) <| mB rfl <| RL.splitP (dj := 24) rfl (fun h17 => ?_) (fun h17 => ?_)
  ·refine gF rfl (bT h17) <| gF rfl (bT h17) <| gF rfl (bT h17) <| gF rfl (bT h17) <| gF rfl (bT h17) <| gF rfl (bT h17) <| V (run_pickT (bT h17) (v := B true) rfl) <| RL.nil <| CW.condT rfl <| SR <| va (v := B false) rfl <| RL.nil <| CW.ret <| outP1 Tryz.results34 (congrArg B ?_) hH5.below
   (rw [ass_no (by omega) (by omega)]; done)
  ·refine gT rfl (bF h17) <| V (fA underlying46 1 rfl sizeOf3 rfl) <| gT rfl (bF h17) <| V (run_ld underlying3 rfl rfl (hH5.cell (i := 0) rfl (v := I _) rfl)) <| gT rfl (bF h17) <| V (fA underlying25 0 rfl sizeOf22 rfl) <| gT rfl (bF h17) <| V (run_ldV (hs.lats.sl.hp hH5) underlying22 rfl rfl (hH5.cell (i := 1) rfl rfl)) <| gT rfl (bF h17) <| V (run_lenSl (hs.lats.sl.hp hH5) rfl underlying22 rfl) <| gT rfl (bF h17) <| V (run_geq rfl rfl) <| V (run_pickF (bF h17) (v := B _) rfl) <| RL.nil <| CW.condP rfl (fun h19 => ?_) (fun h19 => ?_)
   ·refine SR <| va (v := B false) rfl <| RL.nil <| CW.ret <| outP1 Tryz.results34 (congrArg B ?_) hH5.below
    (rw [ass_no (by omega) (by omega)]; done)
   ·refine CW.skip <| CW.seq <| SR <| V (fA underlying46 0 rfl sizeOf3 rfl) <| V (run_ld underlying3 rfl rfl (hH5.cell (i := 0) rfl (v := I _) rfl)) <| V (run_eql rfl rfl) <| RL.nil <| CW.condP rfl (fun h21 => ?_) (fun h21 => ?_)
    ·refine SR <| V (run_ldA (cs := scpL _) underlying25 rfl rfl rfl (rangeAt_cells (hH5.blk (i := 1) rfl))) <| V (fA underlying46 1 rfl sizeOf3 rfl) <| V (run_ld underlying3 rfl rfl (hH5.cell (i := 0) rfl (v := I _) rfl)) <| V (fA underlying46 12 rfl sizeOf44 rfl) <| V (run_ldSub (sub := rtmL _) underlying44 rfl rfl rfl (hH5.blk (i := 0) rfl) (ass_aB _)) <| RL.callP rfl hH5 (c_clearanceref15_isRow _ _ _ (by omega) _ (hs.mono hH5.kw) (hx.a.mono hH5.kw)) (run_call3 call62 rfl rfl rfl) <| fun w22 hH23 => mB rfl <| RL.split (dj := 41) rfl (fun h25 => ?_) (fun h25 => ?_)
     ·refine gT rfl (bR (c := true) h25) <| V (run_ldA (cs := scpL _) underlying25 rfl rfl rfl (rangeAt_cells (hH23.blk (i := 1) rfl))) <| gT rfl (bR (c := true) h25) <| V (fA underlying46 1 rfl sizeOf3 rfl) <| gT rfl (bR (c := true) h25) <| V (run_ld underlying3 rfl rfl (hH23.cell (i := 0) rfl (v := I _) rfl)) <| gT rfl (bR (c := true) h25) <| V (fA underlying46 14 rfl sizeOf44 rfl) <| gT rfl (bR (c := true) h25) <| V (run_ldSub (sub := rtmL _) underlying44 rfl rfl rfl (hH23.blk (i := 0) rfl) (ass_bB _)) <| gT rfl (bR (c := true) h25) <| RL.callP rfl hH23 (c_clearanceref15_isRow _ _ _ (by omega) _ (hs.mono hH23.kw) (hx.b.mono hH23.kw)) (run_call3 call62 rfl rfl rfl) <| fun w26 hH27 => V (run_pickT (bR (c := true) h25) (v := B _) rfl) <| aB rfl <| RL.nil <| CW.ret <| outP1 Tryz.results34 (congrArg B ?_) hH27.below
      (rw [ass_9 ‹x.op = 9› (show 0 ≤ x.lat ∧ x.lat < s.lats.length by omega), ‹rowOk s x.lat x.a = true›, Bool.true_and]; done)
     ·refine gF rfl (bR (c := false) h25) <| gF rfl (bR (c := false) h25) <| gF rfl (bR (c := false) h25) <| gF rfl (bR (c := false) h25) <| gF rfl (bR (c := false) h25) <| gF rfl (bR (c := false) h25) <| V (run_pickF (bR (c := false) h25) (v := B false) rfl) <| aB rfl <| RL.nil <| CW.ret <| outP1 Tryz.results34 (congrArg B ?_) hH23.below
      (rw [ass_9 ‹x.op = 9› (show 0 ≤ x.lat ∧ x.lat < s.lats.length by omega), ‹rowOk s x.lat x.a = false›, Bool.false_and]; done)
    ·refine CW.skip <| CW.seq <| SR <| V (fA underlying46 0 rfl sizeOf3 rfl) <| V (run_ld underlying3 rfl rfl (hH5.cell (i := 0) rfl (v := I _) rfl)) <| V (run_neq rfl rfl) <| mB rfl <| RL.splitP (dj := 52) rfl (fun h30 => ?_) (fun h30 => ?_)
     ·refine gF rfl (bT h30) <| gF rfl (bT h30) <| gF rfl (bT h30) <| gF rfl (bT h30) <| V (run_pickT (bT h30) (v := B true) rfl) <| mB rfl <| gF rfl rfl <| gF rfl rfl <| gF rfl rfl <| gF rfl rfl <| gF rfl rfl <| gF rfl rfl <| gF rfl rfl <| V (run_pickT rfl (v := B true) rfl) <| RL.nil <| CW.condT rfl <| SR <| va (v := B false) rfl <| RL.nil <| CW.ret <| outP1 Tryz.results34 (congrArg B ?_) hH5.below
      (rw [ass_x (by omega) (by omega) (by omega)]; done)
     ·refine gT rfl (bF h30) <| V (fA underlying46 2 rfl sizeOf36 rfl) <| gT rfl (bF h30) <| V (run_ldV (hx.code.sl.hp hH5) underlying36 rfl rfl (hH5.cell (i := 0) rfl rfl)) <| gT rfl (bF h30) <| RL.callP rfl hH5 (c_clearanceref14_Right _ _  _ (hx.code.sl.hp hH5)) (run_call1 call48 rfl) <| fun w31 hH32 => gT rfl (bF h30) <| V (run_not rfl) <| V (run_pickF (bF h30) (v := B _) rfl) <| mB rfl <| RL.split (dj := 58) rfl (fun h35 => ?_) (fun h35 => ?_)
      ·refine gF rfl (bR (c := true) h35) <| gF rfl (bR (c := true) h35) <| gF rfl (bR (c := true) h35) <| gF rfl (bR (c := true) h35) <| gF rfl (bR (c := true) h35) <| gF rfl (bR (c := true) h35) <| gF rfl (bR (c := true) h35) <| V (run_pickT (bR (c := true) h35) (v := B true) rfl) <| RL.nil <| CW.condT rfl <| SR <| va (v := B false) rfl <| RL.nil <| CW.ret <| outP1 Tryz.results34 (congrArg B ?_) hH32.below
       (rw [ass_8 (show x.op = 8 by omega) (show 0 ≤ x.lat ∧ x.lat < s.lats.length by omega), code_no2 (nt ‹(!rightC _) = true›), Bool.false_and]; done)
      ·refine gT rfl (bR (c := false) h35) <| V (run_ldA (cs := scpL _) underlying25 rfl rfl rfl (rangeAt_cells (hH32.blk (i := 1) rfl))) <| gT rfl (bR (c := false) h35) <| V (fA underlying46 1 rfl sizeOf3 rfl) <| gT rfl (bR (c := false) h35) <| V (run_ld underlying3 rfl rfl (hH32.cell (i := 0) rfl (v := I _) rfl)) <| gT rfl (bR (c := false) h35) <| V (fA underlying46 3 rfl sizeOf41 rfl) <| gT rfl (bR (c := false) h35) <| V (run_ldSub (sub := atomL _) underlying41 rfl rfl rfl (hH32.blk (i := 0) rfl) (ass_toB _)) <| gT rfl (bR (c := false) h35) <| RL.callP rfl hH32 (c_clearanceref15_isAtom _ _ _ (by omega) _ (hs.mono hH32.kw)) (run_call3 call63 rfl rfl rfl) <| fun w36 hH37 => gT rfl (bR (c := false) h35) <| V (run_not rfl) <| V (run_pickF (bR (c := false) h35) (v := B _) rfl) <| RL.nil <| CW.cond rfl (fun h40 => ?_) (fun h40 => ?_)
       ·refine SR <| va (v := B false) rfl <| RL.nil <| CW.ret <| outP1 Tryz.results34 (congrArg B ?_) hH37.below
        (rw [ass_8 (show x.op = 8 by omega) (show 0 ≤ x.lat ∧ x.lat < s.lats.length by omega), nt ‹(!atomOk s x.lat x.to) = true›, Bool.and_false]; done)
       ·refine CW.skip <| CW.seq <| SR <| va (v := I 0) rfl <| RL.nil <| CW.block <| CW.loop (G := Int) (fun k s' w' => (Fr (rg 4 3 (rg 67 42 [])) _ s') ∧ (Hp w w' _) ∧ (s' 5 = I k) ∧ (0 ≤ k) ∧ (k ≤ x.code.length) ∧ (∀ j : Int, 0 ≤ j → j < k → insOk s x.lat (x.code.getD j.toNat ins0) = true)) (fun k => (x.code.length - k).toNat) (0) ⟨Fr.refl _ _, hH37, rfl, (by omega), (by omega), fun j a b => absurd b (by omega)⟩ <| ?_
        rintro k sg41 w41 ⟨fr41, hH41, e5_41, h0, hk, hg⟩
        have e2_41 := fr41.pp 2 rfl rfl
        have e3_41 := fr41.pp 3 rfl rfl
        refine CW.seq <| SR <| vm e5_41 <| V (fA underlying46 2 rfl sizeOf36 e3_41) <| V (run_ldV (hx.code.sl.hp hH41) underlying36 rfl rfl (hH41.cell (i := 0) rfl rfl)) <| V (run_lenSl (hx.code.sl.hp hH41) rfl underlying36 rfl) <| V (run_lss rfl rfl) <| RL.nil <| CW.condP rfl (fun h43 => ?_) (fun h43 => ?_)
        ·refine CW.skip <| CW.seq <| CW.block <| SR <| V (fA underlying46 2 rfl sizeOf36 e3_41) <| V (run_ldV (hx.code.sl.hp hH41) underlying36 rfl rfl (hH41.cell (i := 0) rfl rfl)) <| vm e5_41 <| V (run_indexAddrS (hx.code.sl.hp hH41) underlying36 sizeOf91 rfl rfl (by omega)) <| V (run_ldE (dv := ins0) insL_len (hx.code.sl.hp hH41) underlying91 rfl rfl rfl (by omega)) <| RL.new rfl hH41 (f := fun b => (.pointer (some ⟨b, 0, none⟩))) (run_alloc zero_ins) <| fun b46 w44 hH45 => RL.set hH45 (i := 0) rfl (run_stW (c' := (insL _).toArray) rfl rfl rfl (insL_one _) (hH45.blk (i := 0) rfl) rfl) <| fun w47 hH48 => ?_
         simp only [z2] at hH48
         refine RL.nil <| CW.seq <| CW.regionD (by kernel_rfl) hH48 <| fun w49 hH50 => have zh50 := hH50.sub sR; AQ 0 rfl zh50 (fA underlying91 0 rfl sizeOf3 rfl) <| AT 1 rfl zh50 (fun w hS => run_ld underlying3 rfl rfl (hS.cell (i := 0) rfl (v := I _) rfl)) <| AQ 2 rfl zh50 (run_eql rfl rfl) <| AQ 3 rfl zh50 (mV (B _) rfl) <| AN.splitP (dj := 82) rfl (fun h52 => ?_) (fun h52 => ?_)
         ·refine AG 4 rfl rfl (bT h52) (hH50.sub sR) (fun w hS => run_ldA (cs := scpL _) underlying25 rfl rfl e2_41 (rangeAt_cells (hS.blk (i := 2) rfl))) <| AG 5 rfl rfl (bT h52) (hH50.sub sR) (fun w hS => fA underlying91 1 rfl sizeOf3 rfl) <| AG 6 rfl rfl (bT h52) (hH50.sub sR) (fun w hS => run_ld underlying3 rfl rfl (hS.cell (i := 0) rfl (v := I _) rfl)) <| AG 7 rfl rfl (bT h52) (hH50.sub sR) (fun w hS => fA underlying46 1 rfl sizeOf3 e3_41) <| AG 8 rfl rfl (bT h52) (hH50.sub sR) (fun w hS => run_ld underlying3 rfl rfl (hS.cell (i := 1) rfl (v := I _) rfl)) <| A1 9 <| AO.callP rfl (gsome rfl (bT h52)) rfl hH50 sR (c_clearanceref15_Kind _ _ _ _  _ (hs.mono hH50.kw)) (run_call4 call61 rfl rfl (show _ = I 1 from rfl) rfl) <| fun w53 hH54 => AG 10 rfl rfl (bT h52) (hH54.sub sR) (fun w hS => run_not rfl) <| have zh54 := hH54.sub sR; AQ 11 rfl zh54 (run_pickT (bT h52) (v := B _) rfl) <| AQ 12 rfl zh54 (mV (B _) rfl) <| AN.split (dj := 91) rfl (fun h57 => ?_) (fun h57 => ?_)
          ·refine AK 13 rfl rfl (bR (c := true) h57) (hH54.sub sR) <| AK 14 rfl rfl (bR (c := true) h57) (hH54.sub sR) <| AK 15 rfl rfl (bR (c := true) h57) (hH54.sub sR) <| AK 16 rfl rfl (bR (c := true) h57) (hH54.sub sR) <| AU 17 rfl rfl rfl (hH54.sub sR) <| AU 18 rfl rfl rfl (hH54.sub sR) <| AU 19 rfl rfl rfl (hH54.sub sR) <| AU 20 rfl rfl rfl (hH54.sub sR) <| AU 21 rfl rfl rfl (hH54.sub sR) <| AU 22 rfl rfl rfl (hH54.sub sR) <| AU 23 rfl rfl rfl (hH54.sub sR) <| AU 24 rfl rfl rfl (hH54.sub sR) <| AU 25 rfl rfl rfl (hH54.sub sR) <| AU 26 rfl rfl rfl (hH54.sub sR) <| AU 27 rfl rfl rfl (hH54.sub sR) <| AK 28 rfl rfl (bR (c := true) h57) (hH54.sub sR) <| AQ 29 rfl zh54 (run_pickT (bR (c := true) h57) (v := B true) rfl) <| AD <| CW.condT rfl <| SR <| va (v := B false) rfl <| RL.nil <| CW.ret <| outP1 Tryz.results34 (congrArg B ?_) hH54.below
           (rw [ass_8 (show x.op = 8 by omega) (show 0 ≤ x.lat ∧ x.lat < s.lats.length by omega), code_no1 h0 ‹k < _› (ins_no1 ‹(List.getD x.code _ _).op = 1› (nt ‹(!kdOk s _ 1 x.lat) = true›)), Bool.false_and]; done)
          ·refine AG 13 rfl rfl (bR (c := false) h57) (hH54.sub sR) (fun w hS => fA underlying91 0 rfl sizeOf3 rfl) <| AG 14 rfl rfl (bR (c := false) h57) (hH54.sub sR) (fun w hS => run_ld underlying3 rfl rfl (hS.cell (i := 0) rfl (v := I _) rfl)) <| AG 15 rfl rfl (bR (c := false) h57) (hH54.sub sR) (fun w hS => run_eql rfl rfl) <| AG 16 rfl rfl (bR (c := false) h57) (hH54.sub sR) (fun w hS => mV (B _) rfl) <| AN.splitP (dj := 95) rfl (fun h59 => ?_) (fun h59 => ?_)
           ·refine AG 17 rfl rfl (bT h59) (hH54.sub sR) (fun w hS => fA underlying25 0 rfl sizeOf22 e2_41) <| AG 18 rfl rfl (bT h59) (hH54.sub sR) (fun w hS => run_ldV (hs.lats.sl.hp hS) underlying22 rfl rfl (hS.cell (i := 2) rfl rfl)) <| AG 19 rfl rfl (bT h59) (hH54.sub sR) (fun w hS => fA underlying46 1 rfl sizeOf3 e3_41) <| AG 20 rfl rfl (bT h59) (hH54.sub sR) (fun w hS => run_ld underlying3 rfl rfl (hS.cell (i := 1) rfl (v := I _) rfl)) <| AG 21 rfl rfl (bT h59) (hH54.sub sR) (fun w hS => run_indexAddrS (hs.lats.sl.hp hS) underlying22 sizeOf67 rfl rfl (by omega)) <| AG 22 rfl rfl (bT h59) (hH54.sub sR) (fun w hS => fA underlying67 1 rfl sizeOf65 rfl) <| AG 23 rfl rfl (bT h59) (hH54.sub sR) (fun w hS => run_ldEA (dv := lat0) (off := 1) (cs := shpL _) latL_len (hs.lats.sl.hp hS) underlying65 rfl rfl rfl (by omega) (lat_shp _)) <| AG 24 rfl rfl (bT h59) (hH54.sub sR) (fun w hS => fA underlying91 2 rfl sizeOf39 rfl) <| AG 25 rfl rfl (bT h59) (hH54.sub sR) (fun w hS => run_ldElR underlying39 rfl rfl rfl (hS.blk (i := 0) rfl) (ins_elB _)) <| A1 26 <| AO.callP rfl (gsome rfl (bT h59)) rfl hH54 sR (c_clearanceref07_Fits _ _  _ ((hs.at (by omega) (by omega)).mono hH54.kw)) (run_call2 call52 rfl rfl) <| fun w60 hH61 => AG 27 rfl rfl (bT h59) (hH61.sub sR) (fun w hS => run_not rfl) <| AG 28 rfl rfl (bR (c := false) h57) (hH61.sub sR) (fun w hS => run_pickT (bT h59) (v := B _) rfl) <| have zh61 := hH61.sub sR; AQ 29 rfl zh61 (run_pickF (bR (c := false) h57) (v := B _) rfl) <| AD <| CW.cond rfl (fun h64 => ?_) (fun h64 => ?_)
            ·refine SR <| va (v := B false) rfl <| RL.nil <| CW.ret <| outP1 Tryz.results34 (congrArg B ?_) hH61.below
             (rw [ass_8 (show x.op = 8 by omega) (show 0 ≤ x.lat ∧ x.lat < s.lats.length by omega), code_no1 h0 ‹k < _› (ins_no2 ‹(List.getD x.code _ _).op = 2› (nt ‹(!fitsS _ _) = true›)), Bool.false_and]; done)
            ·refine CW.skip <| CW.region <| vm e5_41 <| V (run_add rfl rfl (by omega)) <| aI rfl <| RL.nil <| ?_
             refine ⟨k + 1, ?_, fr41.u4.u4.u4.u4.u4.u4.u4.u4.u4.u4.u4, (hH61.sub (sQ sR)), (congrArg I (by rfl)), ?_, ?_, ?_⟩
             ·((try dsimp only); omega)
             ·omega
             ·omega
             ·exact fun j a b => if e : j = k then e ▸ ins_yes (by exact .inr (nf ‹(!kdOk s _ 1 x.lat) = false›)) (by exact .inr (nf ‹(!fitsS _ _) = false›)) else hg j a (by omega)
           ·refine AK 17 rfl rfl (bF h59) (hH54.sub sR) <| AK 18 rfl rfl (bF h59) (hH54.sub sR) <| AK 19 rfl rfl (bF h59) (hH54.sub sR) <| AK 20 rfl rfl (bF h59) (hH54.sub sR) <| AK 21 rfl rfl (bF h59) (hH54.sub sR) <| AK 22 rfl rfl (bF h59) (hH54.sub sR) <| AK 23 rfl rfl (bF h59) (hH54.sub sR) <| AK 24 rfl rfl (bF h59) (hH54.sub sR) <| AK 25 rfl rfl (bF h59) (hH54.sub sR) <| AK 26 rfl rfl (bF h59) (hH54.sub sR) <| AK 27 rfl rfl (bF h59) (hH54.sub sR) <| AG 28 rfl rfl (bR (c := false) h57) (hH54.sub sR) (fun w hS => run_pickF (bF h59) (v := B false) rfl) <| AQ 29 rfl zh54 (run_pickF (bR (c := false) h57) (v := B _) rfl) <| AD <| CW.condF rfl <| CW.skip <| CW.region <| vm e5_41 <| V (run_add rfl rfl (by omega)) <| aI rfl <| RL.nil <| ?_
            refine ⟨k + 1, ?_, fr41.u4.u4.u4.u4.u4.u4.u4.u4.u4.u4.u4, (hH54.sub (sQ sR)), (congrArg I (by rfl)), ?_, ?_, ?_⟩
            ·((try dsimp only); omega)
            ·omega
            ·omega
            ·exact fun j a b => if e : j = k then e ▸ ins_yes (by exact .inr (nf ‹(!kdOk s _ 1 x.lat) = false›)) (by exact .inl ‹¬ (List.getD x.code _ _).op = 2›) else hg j a (by omega)
         ·refine AK 4 rfl rfl (bF h52) (hH50.sub sR) <| AK 5 rfl rfl (bF h52) (hH50.sub sR) <| AK 6 rfl rfl (bF h52) (hH50.sub sR) <| AK 7 rfl rfl (bF h52) (hH50.sub sR) <| AK 8 rfl rfl (bF h52) (hH50.sub sR) <| AK 9 rfl rfl (bF h52) (hH50.sub sR) <| AK 10 rfl rfl (bF h52) (hH50.sub sR) <| AQ 11 rfl zh50 (run_pickF (bF h52) (v := B false) rfl) <| AQ 12 rfl zh50 (mV (B _) rfl) <| AG 13 rfl rfl rfl (hH50.sub sR) (fun w hS => fA underlying91 0 rfl sizeOf3 rfl) <| AG 14 rfl rfl rfl (hH50.sub sR) (fun w hS => run_ld underlying3 rfl rfl (hS.cell (i := 0) rfl (v := I _) rfl)) <| AG 15 rfl rfl rfl (hH50.sub sR) (fun w hS => run_eql rfl rfl) <| AG 16 rfl rfl rfl (hH50.sub sR) (fun w hS => mV (B _) rfl) <| AN.splitP (dj := 95) rfl (fun h66 => ?_) (fun h66 => ?_)
          ·refine AG 17 rfl rfl (bT h66) (hH50.sub sR) (fun w hS => fA underlying25 0 rfl sizeOf22 e2_41) <| AG 18 rfl rfl (bT h66) (hH50.sub sR) (fun w hS => run_ldV (hs.lats.sl.hp hS) underlying22 rfl rfl (hS.cell (i := 2) rfl rfl)) <| AG 19 rfl rfl (bT h66) (hH50.sub sR) (fun w hS => fA underlying46 1 rfl sizeOf3 e3_41) <| AG 20 rfl rfl (bT h66) (hH50.sub sR) (fun w hS => run_ld underlying3 rfl rfl (hS.cell (i := 1) rfl (v := I _) rfl)) <| AG 21 rfl rfl (bT h66) (hH50.sub sR) (fun w hS => run_indexAddrS (hs.lats.sl.hp hS) underlying22 sizeOf67 rfl rfl (by omega)) <| AG 22 rfl rfl (bT h66) (hH50.sub sR) (fun w hS => fA underlying67 1 rfl sizeOf65 rfl) <| AG 23 rfl rfl (bT h66) (hH50.sub sR) (fun w hS => run_ldEA (dv := lat0) (off := 1) (cs := shpL _) latL_len (hs.lats.sl.hp hS) underlying65 rfl rfl rfl (by omega) (lat_shp _)) <| AG 24 rfl rfl (bT h66) (hH50.sub sR) (fun w hS => fA underlying91 2 rfl sizeOf39 rfl) <| AG 25 rfl rfl (bT h66) (hH50.sub sR) (fun w hS => run_ldElR underlying39 rfl rfl rfl (hS.blk (i := 0) rfl) (ins_elB _)) <| A1 26 <| AO.callP rfl (gsome rfl (bT h66)) rfl hH50 sR (c_clearanceref07_Fits _ _  _ ((hs.at (by omega) (by omega)).mono hH50.kw)) (run_call2 call52 rfl rfl) <| fun w67 hH68 => AG 27 rfl rfl (bT h66) (hH68.sub sR) (fun w hS => run_not rfl) <| AG 28 rfl rfl rfl (hH68.sub sR) (fun w hS => run_pickT (bT h66) (v := B _) rfl) <| have zh68 := hH68.sub sR; AQ 29 rfl zh68 (run_pickF rfl (v := B _) rfl) <| AD <| CW.cond rfl (fun h71 => ?_) (fun h71 => ?_)
           ·refine SR <| va (v := B false) rfl <| RL.nil <| CW.ret <| outP1 Tryz.results34 (congrArg B ?_) hH68.below
            (rw [ass_8 (show x.op = 8 by omega) (show 0 ≤ x.lat ∧ x.lat < s.lats.length by omega), code_no1 h0 ‹k < _› (ins_no2 ‹(List.getD x.code _ _).op = 2› (nt ‹(!fitsS _ _) = true›)), Bool.false_and]; done)
           ·refine CW.skip <| CW.region <| vm e5_41 <| V (run_add rfl rfl (by omega)) <| aI rfl <| RL.nil <| ?_
            refine ⟨k + 1, ?_, fr41.u4.u4.u4.u4.u4.u4.u4.u4.u4.u4.u4, (hH68.sub (sQ sR)), (congrArg I (by rfl)), ?_, ?_, ?_⟩
            ·((try dsimp only); omega)
            ·omega
            ·omega
            ·exact fun j a b => if e : j = k then e ▸ ins_yes (by exact .inl ‹¬ (List.getD x.code _ _).op = 1›) (by exact .inr (nf ‹(!fitsS _ _) = false›)) else hg j a (by omega)
          ·refine AK 17 rfl rfl (bF h66) (hH50.sub sR) <| AK 18 rfl rfl (bF h66) (hH50.sub sR) <| AK 19 rfl rfl (bF h66) (hH50.sub sR) <| AK 20 rfl rfl (bF h66) (hH50.sub sR) <| AK 21 rfl rfl (bF h66) (hH50.sub sR) <| AK 22 rfl rfl (bF h66) (hH50.sub sR) <| AK 23 rfl rfl (bF h66) (hH50.sub sR) <| AK 24 rfl rfl (bF h66) (hH50.sub sR) <| AK 25 rfl rfl (bF h66) (hH50.sub sR) <| AK 26 rfl rfl (bF h66) (hH50.sub sR) <| AK 27 rfl rfl (bF h66) (hH50.sub sR) <| AG 28 rfl rfl rfl (hH50.sub sR) (fun w hS => run_pickF (bF h66) (v := B false) rfl) <| AQ 29 rfl zh50 (run_pickF rfl (v := B _) rfl) <| AD <| CW.condF rfl <| CW.skip <| CW.region <| vm e5_41 <| V (run_add rfl rfl (by omega)) <| aI rfl <| RL.nil <| ?_
           refine ⟨k + 1, ?_, fr41.u4.u4.u4.u4.u4.u4.u4.u4.u4.u4.u4, (hH50.sub (sQ sR)), (congrArg I (by rfl)), ?_, ?_, ?_⟩
           ·((try dsimp only); omega)
           ·omega
           ·omega
           ·exact fun j a b => if e : j = k then e ▸ ins_yes (by exact .inl ‹¬ (List.getD x.code _ _).op = 1›) (by exact .inl ‹¬ (List.getD x.code _ _).op = 2›) else hg j a (by omega)
        ·refine CW.exit (id := 0) rfl <| SR <| va (v := B true) rfl <| RL.nil <| CW.ret <| outP1 Tryz.results34 (congrArg B ?_) hH41.below
         (rw [ass_8 (show x.op = 8 by omega) (show 0 ≤ x.lat ∧ x.lat < s.lats.length by omega), code_yes2 ‹¬ k < _› hg (nf ‹(!rightC _) = false›), nf ‹(!atomOk s x.lat x.to) = false›]; rfl)
end Go.Proofs.YtkdbiooamgnfmaaGreatDoor.W
