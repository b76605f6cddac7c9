/-
  The walks of the functions that the laws of this seat reach, part 2: each returns what its plain counterpart tells, and turns nothing that was there.
-/
import Derived.Test.YtkdbiooamgnfmaaDoorProg
import Derived.Test.YtkdbiooamgnfmaaDoorEnv
import Derived.Test.YtkdbiooamgnfmaaDoorPlain
import Derived.Test.YtkdbiooamgnfmaaDoorBase
import Derived.Test.YtkdbiooamgnfmaaDoorOrd
import Derived.Test.YtkdbiooamgnfmaaDoorRel
import Derived.Test.YtkdbiooamgnfmaaDoorClo
import Derived.Test.YtkdbiooamgnfmaaDoorCov
import Derived.Test.YtkdbiooamgnfmaaDoorArr
import Derived.Test.YtkdbiooamgnfmaaDoorHas
import Derived.Test.YtkdbiooamgnfmaaDoorGrd
import Derived.Test.YtkdbiooamgnfmaaDoorStr
import Derived.Test.YtkdbiooamgnfmaaDoorVu
import Derived.Test.YtkdbiooamgnfmaaDoorShp
import Derived.Test.YtkdbiooamgnfmaaDoorShl
import Derived.Test.YtkdbiooamgnfmaaDoorShq
import Derived.Test.YtkdbiooamgnfmaaDoorCut
import Derived.Test.YtkdbiooamgnfmaaDoorRec
import Derived.Test.YtkdbiooamgnfmaaDoorScp
import Derived.Test.YtkdbiooamgnfmaaDoorNod
import Derived.Test.YtkdbiooamgnfmaaDoorSpn
import Derived.Test.YtkdbiooamgnfmaaDoorSpy
import Derived.Test.YtkdbiooamgnfmaaDoorMk
import Derived.Test.YtkdbiooamgnfmaaDoorAsn
import Derived.Test.YtkdbiooamgnfmaaDoorAsp
import Derived.Test.YtkdbiooamgnfmaaDoorAsr
import Derived.Test.YtkdbiooamgnfmaaDoorAst
import Derived.Test.YtkdbiooamgnfmaaDoorRgs
import Derived.Test.YtkdbiooamgnfmaaDoorIns
import Derived.Test.YtkdbiooamgnfmaaDoorCod
import Derived.Test.YtkdbiooamgnfmaaDoorFit
import Derived.Test.YtkdbiooamgnfmaaDoorRow
import Derived.Test.YtkdbiooamgnfmaaDoorHol
import Derived.Test.YtkdbiooamgnfmaaDoorGap
import Derived.Test.YtkdbiooamgnfmaaDoorMap
import Derived.Test.YtkdbiooamgnfmaaDoorExn
import Derived.Test.YtkdbiooamgnfmaaDoorMin
import Derived.Test.YtkdbiooamgnfmaaDoorHoldsMeetPacesA
namespace Go.Proofs.YtkdbiooamgnfmaaDoor.W
open Go Go.RowKit Go.Proofs.YtkdbiooamgnfmaaDoor.E Go.Proofs.YtkdbiooamgnfmaaDoor.M
set_option linter.unusedVariables false
set_option linter.unusedSimpArgs false
set_option maxRecDepth 100000
open Tryd
theorem c_holds_atom (t : AtomR) (a : Asg) (w : World) (ha : AsgV (Kw w) a) : Calls Tryd.prog 34 #[.agg (atomL t).toArray, .agg (asgL a).toArray] w (Pure (.tuple #[.agg (elC (atomF a.as t).1), B (atomF a.as t).2]) w) := by
 have hm1 := ha.labels.small
 have hm2 := ha.rows.small
 unfold maxLen at hm1 hm2
 refine enter Tryd.func34 rfl Tryd.ntmps34 rfl <| have hH := Hp.start w; SR <| RL.new rfl hH (f := fun b => (.pointer (some ⟨b, 0, none⟩))) (run_box (v := .agg _) rfl) <| fun b3 w1 hH2 => RL.new rfl hH2 (f := fun b => (.pointer (some ⟨b, 0, none⟩))) (run_box (v := .agg _) rfl) <| fun b6 w4 hH5 => RL.new rfl hH5 (f := fun b => (.pointer (some ⟨b, 0, none⟩))) (run_alloc zero_el) <| fun b9 w7 hH8 => va (v := B false) rfl <| RL.nil <| CW.seq <| SR <| V (fA underlying35 0 rfl sizeOf3 rfl) <| V (run_ld underlying3 rfl rfl (hH8.cell (i := 2) rfl (v := I _) rfl)) <| V (run_lss rfl rfl) <| RL.nil <| CW.condP rfl (fun h11 => ?_) (fun h11 => ?_)
 ·refine SR <| V (fA underlying35 1 rfl sizeOf33 rfl) <| V (run_ldElR underlying33 rfl rfl rfl (hH8.blk (i := 2) rfl) (atom_elB _)) <| RL.set hH8 (i := 0) rfl (run_stEl rfl rfl rfl (hH8.blk (i := 0) rfl)) <| fun w12 hH13 => ?_
  simp only [z2] at hH13
  refine va (v := B true) rfl <| RL.nil <| CW.ret <| outCT Tryd.results34 rfl rfl hH13 (i := 0) rfl underlying33 rfl (by rw [elC_size]; rfl) ⟨?_, hH13.below⟩
  (rw [atm_1 ‹t.var < 0›]; rfl)
 ·refine CW.skip <| CW.seq <| SR <| V (fA underlying35 0 rfl sizeOf3 rfl) <| V (run_ld underlying3 rfl rfl (hH8.cell (i := 2) rfl (v := I _) rfl)) <| V (fA underlying28 0 rfl sizeOf25 rfl) <| V (run_ldV (ha.labels.sl.hp hH8) underlying25 rfl rfl (hH8.cell (i := 1) rfl rfl)) <| V (run_lenSl (ha.labels.sl.hp hH8) rfl underlying25 rfl) <| V (run_geq rfl rfl) <| RL.nil <| CW.condP rfl (fun h15 => ?_) (fun h15 => ?_)
  ·refine SR <| V (run_bld (vs := []) rfl (built_el0)) <| RL.set hH8 (i := 0) rfl (run_stEl rfl rfl rfl (hH8.blk (i := 0) rfl)) <| fun w16 hH17 => ?_
   simp only [z2] at hH17
   refine va (v := B false) rfl <| RL.nil <| CW.ret <| outCT Tryd.results34 rfl rfl hH17 (i := 0) rfl underlying33 rfl (by rw [elC_size]; rfl) ⟨?_, hH17.below⟩
   (rw [atm_3 ‹¬ t.var < 0› (show ¬ t.var < a.as.labels.length by show ¬ t.var < a.labels.length; omega)]; rfl)
  ·refine CW.skip <| SR <| V (fA underlying28 0 rfl sizeOf25 rfl) <| V (run_ldV (ha.labels.sl.hp hH8) underlying25 rfl rfl (hH8.cell (i := 1) rfl rfl)) <| V (fA underlying35 0 rfl sizeOf3 rfl) <| V (run_ld underlying3 rfl rfl (hH8.cell (i := 2) rfl (v := I _) rfl)) <| V (run_indexAddrS (ha.labels.sl.hp hH8) underlying25 sizeOf33 rfl rfl (by omega)) <| V (run_ldElS (ha.labels.sl.hp hH8) underlying33 rfl rfl rfl (by omega)) <| RL.set hH8 (i := 0) rfl (run_stEl rfl rfl rfl (hH8.blk (i := 0) rfl)) <| fun w18 hH19 => ?_
   simp only [z2] at hH19
   refine va (v := B true) rfl <| RL.nil <| CW.ret <| outCT Tryd.results34 rfl rfl hH19 (i := 0) rfl underlying33 rfl (by rw [elC_size]; rfl) ⟨?_, hH19.below⟩
   (rw [atm_2 ‹¬ t.var < 0› (show t.var < a.as.labels.length by show t.var < a.labels.length; omega)]; rfl)
theorem c_fit_is (s : Scp) (v kd lat : Int) (w : World) (hs : ScpV (Kw w) s) : Calls Tryd.prog 44 #[.agg (scpC s), I v, I kd, I lat] w (Pure (B (kdOk s v kd lat)) w) := by
 have hm1 := hs.lats.sl.small
 have hm2 := hs.vars.sl.small
 unfold maxLen at hm1 hm2
 refine enter Tryd.func44 rfl Tryd.ntmps44 rfl <| have hH := Hp.start w; SR <| RL.new rfl hH (f := fun b => (.pointer (some ⟨b, 0, none⟩))) (run_box (v := .agg _) rfl) <| fun b3 w1 hH2 => va (v := B false) rfl <| RL.nil <| SR <| mI rfl <| V (run_geq rfl rfl) <| mB rfl <| RL.splitP (dj := 11) rfl (fun h5 => ?_) (fun h5 => ?_)
 ·refine gT rfl (bT h5) <| mI rfl <| gT rfl (bT h5) <| V (fA underlying48 1 rfl sizeOf46 rfl) <| gT rfl (bT h5) <| V (run_ldV (hs.vars.sl.hp hH2) underlying46 rfl rfl (hH2.cell (i := 0) rfl rfl)) <| gT rfl (bT h5) <| V (run_lenSl (hs.vars.sl.hp hH2) rfl underlying46 rfl) <| gT rfl (bT h5) <| V (run_lss rfl rfl) <| V (run_pickT (bT h5) (v := B _) rfl) <| mB rfl <| RL.splitP (dj := 18) rfl (fun h7 => ?_) (fun h7 => ?_)
  ·refine gT rfl (bT h7) <| V (fA underlying48 1 rfl sizeOf46 rfl) <| gT rfl (bT h7) <| V (run_ldV (hs.vars.sl.hp hH2) underlying46 rfl rfl (hH2.cell (i := 0) rfl rfl)) <| gT rfl (bT h7) <| mI rfl <| gT rfl (bT h7) <| V (run_indexAddrS (hs.vars.sl.hp hH2) underlying46 sizeOf74 rfl rfl (by omega)) <| gT rfl (bT h7) <| V (fA underlying74 1 rfl sizeOf3 rfl) <| gT rfl (bT h7) <| V (run_ldE1 (dv := var0) (off := 1) varL_len (hs.vars.sl.hp hH2) underlying3 rfl rfl (by omega) rfl) <| gT rfl (bT h7) <| mI rfl <| gT rfl (bT h7) <| V (run_eql rfl rfl) <| V (run_pickT (bT h7) (v := B _) rfl) <| mB rfl <| RL.splitP (dj := 28) rfl (fun h9 => ?_) (fun h9 => ?_)
   ·refine gT rfl (bT h9) <| V (fA underlying48 1 rfl sizeOf46 rfl) <| gT rfl (bT h9) <| V (run_ldV (hs.vars.sl.hp hH2) underlying46 rfl rfl (hH2.cell (i := 0) rfl rfl)) <| gT rfl (bT h9) <| mI rfl <| gT rfl (bT h9) <| V (run_indexAddrS (hs.vars.sl.hp hH2) underlying46 sizeOf74 rfl rfl (by omega)) <| gT rfl (bT h9) <| V (fA underlying74 2 rfl sizeOf3 rfl) <| gT rfl (bT h9) <| V (run_ldE1 (dv := var0) (off := 2) varL_len (hs.vars.sl.hp hH2) underlying3 rfl rfl (by omega) rfl) <| gT rfl (bT h9) <| mI rfl <| gT rfl (bT h9) <| V (run_eql rfl rfl) <| V (run_pickT (bT h9) (v := B _) rfl) <| aB rfl <| RL.nil <| CW.ret <| outP1 Tryd.results44 (congrArg B ?_) hH2.below
    (rw [kind_yes ⟨by omega, by omega⟩ ‹(List.getD s.vars _ _).kind = kd›]; done)
   ·refine gF rfl (bF h9) <| gF rfl (bF h9) <| gF rfl (bF h9) <| gF rfl (bF h9) <| gF rfl (bF h9) <| gF rfl (bF h9) <| gF rfl (bF h9) <| gF rfl (bF h9) <| V (run_pickF (bF h9) (v := B false) rfl) <| aB rfl <| RL.nil <| CW.ret <| outP1 Tryd.results44 (congrArg B ?_) hH2.below
    (rw [kind_no2 ‹¬ (List.getD s.vars _ _).kind = kd›]; done)
  ·refine gF rfl (bF h7) <| gF rfl (bF h7) <| gF rfl (bF h7) <| gF rfl (bF h7) <| gF rfl (bF h7) <| gF rfl (bF h7) <| gF rfl (bF h7) <| gF rfl (bF h7) <| V (run_pickF (bF h7) (v := B false) rfl) <| mB rfl <| gF rfl rfl <| gF rfl rfl <| gF rfl rfl <| gF rfl rfl <| gF rfl rfl <| gF rfl rfl <| gF rfl rfl <| gF rfl rfl <| V (run_pickF rfl (v := B false) rfl) <| aB rfl <| RL.nil <| CW.ret <| outP1 Tryd.results44 (congrArg B ?_) hH2.below
   (rw [kind_no1 (by omega)]; done)
 ·refine gF rfl (bF h5) <| gF rfl (bF h5) <| gF rfl (bF h5) <| gF rfl (bF h5) <| gF rfl (bF h5) <| V (run_pickF (bF h5) (v := B false) rfl) <| mB rfl <| gF rfl rfl <| gF rfl rfl <| gF rfl rfl <| gF rfl rfl <| gF rfl rfl <| gF rfl rfl <| gF rfl rfl <| gF rfl rfl <| V (run_pickF rfl (v := B false) rfl) <| mB rfl <| gF rfl rfl <| gF rfl rfl <| gF rfl rfl <| gF rfl rfl <| gF rfl rfl <| gF rfl rfl <| gF rfl rfl <| gF rfl rfl <| V (run_pickF rfl (v := B false) rfl) <| aB rfl <| RL.nil <| CW.ret <| outP1 Tryd.results44 (congrArg B ?_) hH2.below
  (rw [kind_no1 (by omega)]; done)
theorem c_fit_isAtom (s : Scp) (lat : Int) (t : AtomR) (hlat : 0 ≤ lat ∧ lat < s.lats.length) (w : World) (hs : ScpV (Kw w) s) (hT : Tab w) : Calls Tryd.prog 47 #[.agg (scpC s), I lat, .agg (atomL t).toArray] w (Pure (B (atomOk s lat t)) w) := by
 have hm1 := hs.lats.sl.small
 have hm2 := hs.vars.sl.small
 unfold maxLen at hm1 hm2
 refine enter Tryd.func47 rfl Tryd.ntmps47 rfl <| have hH := Hp.start w; SR <| RL.new rfl hH (f := fun b => (.pointer (some ⟨b, 0, none⟩))) (run_box (v := .agg _) rfl) <| fun b3 w1 hH2 => RL.new rfl hH2 (f := fun b => (.pointer (some ⟨b, 0, none⟩))) (run_box (v := .agg _) rfl) <| fun b6 w4 hH5 => va (v := B false) rfl <| RL.nil <| CW.seq <| SR <| V (fA underlying35 0 rfl sizeOf3 rfl) <| V (run_ld underlying3 rfl rfl (hH5.cell (i := 0) rfl (v := I _) rfl)) <| V (run_lss rfl rfl) <| RL.nil <| CW.condP rfl (fun h8 => ?_) (fun h8 => ?_)
 ·refine CW.seq <| CW.regionD (by kernel_rfl) hH5 <| fun w9 hH10 => have zh10 := hH10.sub sR; AQ 0 rfl zh10 (fA underlying48 0 rfl sizeOf45 rfl) <| AT 1 rfl zh10 (fun w hS => run_ldV (hs.lats.sl.hp hS) underlying45 rfl rfl (hS.cell (i := 1) rfl rfl)) <| AQ 2 rfl zh10 (mV (I _) rfl) <| AT 3 rfl zh10 (fun w hS => run_indexAddrS (hs.lats.sl.hp hS) underlying45 sizeOf72 rfl rfl (by omega)) <| AQ 4 rfl zh10 (fA underlying72 1 rfl sizeOf70 rfl) <| AT 5 rfl zh10 (fun w hS => run_ldEA (dv := lat0) (off := 1) (cs := shpL _) latL_len (hs.lats.sl.hp hS) underlying70 rfl rfl rfl (by omega) (lat_shp _)) <| AQ 6 rfl zh10 (fA underlying35 1 rfl sizeOf33 rfl) <| AT 7 rfl zh10 (fun w hS => run_ldElR underlying33 rfl rfl rfl (hS.blk (i := 0) rfl) (atom_elB _)) <| A1 8 <| AO.callP rfl gnone rfl hH10 sR (c_shape_Fits _ _  _ ((hs.at (by omega) (by omega)).mono hH10.kw) (hT.hp hH10)) (run_call2 call26 rfl rfl) <| fun w11 hH12 => AQ 9 rfl (hH12.sub sR) (aV (B _) rfl) <| AD <| CW.ret <| outP1 Tryd.results47 (congrArg B ?_) hH12.below
  (rw [atom_1 ‹t.var < 0›]; rfl)
 ·refine CW.skip <| SR <| V (run_ldA (cs := scpL _) underlying48 rfl rfl rfl (rangeAt_cells (hH5.blk (i := 1) rfl))) <| V (fA underlying35 0 rfl sizeOf3 rfl) <| V (run_ld underlying3 rfl rfl (hH5.cell (i := 0) rfl (v := I _) rfl)) <| mI rfl <| RL.callP rfl hH5 (c_fit_is _ _ _ _  _ (hs.mono hH5.kw)) (run_call4 call44 rfl rfl (show _ = I 1 from rfl) rfl) <| fun w14 hH15 => aB rfl <| RL.nil <| CW.ret <| outP1 Tryd.results47 (congrArg B ?_) hH15.below
  (rw [atom_2 ‹¬ t.var < 0›]; done)
theorem c_fit_isRow (s : Scp) (lat : Int) (r : RowR) (hlat : 0 ≤ lat ∧ lat < s.lats.length) (w : World) (hs : ScpV (Kw w) s) (hr : RowV (Kw w) r) (hT : Tab w) : Calls Tryd.prog 45 #[.agg (scpC s), I lat, .agg (rtmL r).toArray] w (Pure (B (rowOk s lat r)) w) := by
 have hm1 := hs.lats.sl.small
 have hm2 := hs.vars.sl.small
 unfold maxLen at hm1 hm2
 have hm3 := hr.fields.small
 unfold maxLen at hm3
 refine enter Tryd.func45 rfl Tryd.ntmps45 rfl <| have hH := Hp.start w; SR <| RL.new rfl hH (f := fun b => (.pointer (some ⟨b, 0, none⟩))) (run_box (v := .agg _) rfl) <| fun b3 w1 hH2 => RL.new rfl hH2 (f := fun b => (.pointer (some ⟨b, 0, none⟩))) (run_box (v := .agg _) rfl) <| fun b6 w4 hH5 => va (v := B false) rfl <| RL.nil <| CW.seq <| SR <| V (fA underlying24 0 rfl sizeOf22 rfl) <| V (run_ldV (hr.fields.sl.hp hH5) underlying22 rfl rfl (hH5.cell (i := 0) rfl rfl)) <| V (run_lenSl (hr.fields.sl.hp hH5) rfl underlying22 rfl) <| V (run_gtr rfl rfl) <| mB rfl <| RL.splitP (dj := 14) rfl (fun h8 => ?_) (fun h8 => ?_)
 ·refine gF rfl (bT h8) <| gF rfl (bT h8) <| gF rfl (bT h8) <| gF rfl (bT h8) <| RL.gU rfl rfl rfl <| RL.gU rfl rfl rfl <| RL.gU rfl rfl rfl <| RL.gU rfl rfl rfl <| RL.gU rfl rfl rfl <| RL.gU rfl rfl rfl <| gF rfl (bT h8) <| V (run_pickT (bT h8) (v := B true) rfl) <| RL.nil <| CW.condT rfl <| SR <| va (v := B false) rfl <| RL.nil <| CW.ret <| outP1 Tryd.results45 (congrArg B ?_) hH5.below
  exact (row_no1 (by omega)).symm
 ·refine gT rfl (bF h8) <| V (fA underlying24 1 rfl sizeOf3 rfl) <| gT rfl (bF h8) <| V (run_ld underlying3 rfl rfl (hH5.cell (i := 0) rfl (v := I _) rfl)) <| gT rfl (bF h8) <| V (run_geq rfl rfl) <| gT rfl (bF h8) <| mB rfl <| RL.splitP (dj := 18) rfl (fun h10 => ?_) (fun h10 => ?_)
  ·refine gT rfl (bT h10) <| V (run_ldA (cs := scpL _) underlying48 rfl rfl rfl (rangeAt_cells (hH5.blk (i := 1) rfl))) <| gT rfl (bT h10) <| V (fA underlying24 1 rfl sizeOf3 rfl) <| gT rfl (bT h10) <| V (run_ld underlying3 rfl rfl (hH5.cell (i := 0) rfl (v := I _) rfl)) <| gT rfl (bT h10) <| mI rfl <| gT rfl (bT h10) <| RL.callP rfl hH5 (c_fit_is _ _ _ _  _ (hs.mono hH5.kw)) (run_call4 call44 rfl rfl (show _ = I 2 from rfl) rfl) <| fun w11 hH12 => gT rfl (bT h10) <| V (run_not rfl) <| gT rfl (bF h8) <| V (run_pickT (bT h10) (v := B _) rfl) <| V (run_pickF (bF h8) (v := B _) rfl) <| RL.nil <| CW.cond rfl (fun h15 => ?_) (fun h15 => ?_)
   ·refine SR <| va (v := B false) rfl <| RL.nil <| CW.ret <| outP1 Tryd.results45 (congrArg B ?_) hH12.below
    exact (row_no2 (by omega) (nt ‹(!kdOk s r.tail 2 lat) = true›)).symm
   ·refine CW.skip <| SR <| va (v := .slice none 0 0) rfl <| have hH16 := hH12.nilRow 9 1; RL.nil <| CW.seq <| SR <| V (fA underlying24 0 rfl sizeOf22 rfl) <| V (run_ldV (hr.fields.sl.hp hH16) underlying22 rfl rfl (hH16.cell (i := 1) rfl rfl)) <| V (run_lenSl (hr.fields.sl.hp hH16) rfl underlying22 rfl) <| vm (v := I 0) rfl <| RL.nil <| CW.block <| have hsz : r.fields.length ≤ 16 := (by omega); have htl : r.tail < 0 ∨ kdOk s r.tail 2 lat = true := (by exact .inr (nf ‹(!kdOk s r.tail 2 lat) = false›)); CW.loop (G := Int × (List Tx) × Value) (fun ⟨k, m, v7⟩ s' w' => (Fr (6 :: 7 :: (9 :: (rg 30 22 []))) _ s') ∧ (Hp w w' (.row v7 9 1 (m.length) (txL m) :: _)) ∧ (s' 7 = v7) ∧ (s' 30 = I k) ∧ (0 ≤ k) ∧ (k ≤ r.fields.length) ∧ (m = (r.fields.take k.toNat).map FieldR.name) ∧ ((m.length : Int) = k) ∧ (∀ j : Int, 0 ≤ j → j < k → fieldOk s lat (r.fields.getD j.toNat field0) = true)) (fun ⟨k, m, v7⟩ => (r.fields.length - k).toNat) ((0, [], (.slice none 0 0 : Value))) ⟨Fr.refl _ _, hH16, rfl, rfl, (by omega), (by omega), rfl, rfl, fun j a b => absurd b (by omega)⟩ <| ?_
    rintro ⟨k, m, v7⟩ sg17 w17 ⟨fr17, hH17, e7_17, e30_17, h0, hk, hm, hml, hg⟩
    have e1_17 := fr17.ii 1 rfl rfl
    have e3_17 := fr17.pp 3 rfl rfl
    have e28_17 := (fr17 28 rfl).trans (by conv => lhs; whnf)
    have e29_17 := fr17.ii 29 rfl rfl
    refine SR <| V (run_lss e30_17 e29_17) <| RL.nil <| CW.seq <| CW.condP rfl (fun h19 => ?_) (fun h19 => ?_)
    ·refine CW.skip <| CW.seq <| CW.block <| SR <| V (run_indexAddrS (hr.fields.sl.hp hH17) underlying22 sizeOf59 e28_17 e30_17 (by omega)) <| V (run_ldE (dv := field0) fieldL_len (hr.fields.sl.hp hH17) underlying59 rfl rfl rfl (by omega)) <| RL.new rfl hH17 (f := fun b => (.pointer (some ⟨b, 0, none⟩))) (run_alloc zero_field) <| fun b22 w20 hH21 => RL.set hH21 (i := 0) rfl (run_stW (c' := (fieldL _).toArray) rfl rfl rfl (fieldL_one _) (hH21.blk (i := 0) rfl) rfl) <| fun w23 hH24 => ?_
     simp only [z2] at hH24
     refine RL.nil <| CW.seq <| SR <| V (fA underlying59 0 rfl sizeOf9 rfl) <| V (run_ld underlying9 rfl rfl (hH24.cell (i := 0) rfl (v := .string _) rfl)) <| RL.callP rfl hH24 (c_name_Right _  _) (run_call1 call41 rfl) <| fun w25 hH26 => V (run_not rfl) <| mB rfl <| RL.split (dj := 38) rfl (fun h29 => ?_) (fun h29 => ?_)
     ·refine gF rfl (bR (c := true) h29) <| gF rfl (bR (c := true) h29) <| gF rfl (bR (c := true) h29) <| gF rfl (bR (c := true) h29) <| gF rfl (bR (c := true) h29) <| gF rfl (bR (c := true) h29) <| V (run_pickT (bR (c := true) h29) (v := B true) rfl) <| RL.nil <| CW.condT rfl <| SR <| va (v := B false) rfl <| RL.nil <| CW.ret <| outP1 Tryd.results45 (congrArg B ?_) hH26.below
      exact (row_no3 h0 ‹k < _› (field_no1 (nt ‹(!nameR _) = true›))).symm
     ·refine gT rfl (bR (c := false) h29) <| V (run_ldA (cs := scpL _) underlying48 rfl rfl e3_17 (rangeAt_cells (hH26.blk (i := 3) rfl))) <| gT rfl (bR (c := false) h29) <| vm e1_17 <| gT rfl (bR (c := false) h29) <| V (fA underlying59 1 rfl sizeOf35 rfl) <| gT rfl (bR (c := false) h29) <| V (run_ldSub (sub := atomL _) underlying35 rfl rfl rfl (hH26.blk (i := 0) rfl) (field_atB _)) <| gT rfl (bR (c := false) h29) <| RL.callP rfl hH26 (c_fit_isAtom _ _ _ (by omega) _ (hs.mono hH26.kw) (hT.hp hH26)) (run_call3 call47 rfl rfl rfl) <| fun w30 hH31 => gT rfl (bR (c := false) h29) <| V (run_not rfl) <| V (run_pickF (bR (c := false) h29) (v := B _) rfl) <| RL.nil <| CW.cond rfl (fun h34 => ?_) (fun h34 => ?_)
      ·refine SR <| va (v := B false) rfl <| RL.nil <| CW.ret <| outP1 Tryd.results45 (congrArg B ?_) hH31.below
       exact (row_no3 h0 ‹k < _› (field_no2 (nt ‹(!atomOk s lat _) = true›))).symm
      ·refine CW.skip <| CW.region <| vm e7_17 <| V (fA underlying59 0 rfl sizeOf9 rfl) <| V (run_ld underlying9 rfl rfl (hH31.cell (i := 0) rfl (v := .string _) rfl)) <| RL.new rfl hH31 (f := fun b => (.slice (some ⟨b, 0, none⟩) 1 1)) (run_mkL underlying62 rfl rfl (sz := 1) (vs := [.string _]) rfl rfl (by decide) (by decide) rfl rfl) <| fun b37 w35 hH36 => ?_
       (try simp only [clX] at hH36)
       refine RL.app rfl hH36 (i := 2) rfl (hH36.slBlk (i := 0) (n := 1) (sz := 1) rfl rfl (by decide)) rfl rfl underlying62 rfl rfl (size := 1) (bytes := 16) rfl rfl rfl (by decide) (by simp [Value.oneCell']) (by omega) (by simp only [maxLen]; omega) <| fun v38 w39 hH40 => ?_
       simp only [z2] at hH40
       refine V (run_assign (by conv => lhs; whnf)) ?_
       refine RL.nil <| CW.region <| V (run_add e30_17 rfl (by omega)) <| mI rfl <| RL.nil <| ?_
       refine ⟨(k + 1, m ++ [(r.fields.getD k.toNat field0).name], v38), ?_, fr17.u4.u4.u4.u4.u4.u4, (Hp.conv (hH40.sub (sQ (sQ sR))) (by simp)), rfl, (congrArg I (by rfl)), ?_, ?_, ?_, ?_, ?_⟩
       ·((try dsimp only); omega)
       ·omega
       ·omega
       ·rw [fnames_next h0 ‹k < _›, ← hm]
       ·simp only [List.length_append, List.length_singleton]; omega
       ·exact fun j a b => if e : j = k then e ▸ field_yes (nf ‹(!nameR _) = false›) (nf ‹(!atomOk s lat _) = false›) else hg j a (by omega)
    ·refine CW.exit (id := 0) rfl <| SR <| vm e7_17 <| RL.callP rfl hH17 (c_name_Twice _ _  _ (hH17.sl (i := 0) rfl)) (run_call1 call43 rfl) <| fun w41 hH42 => V (run_lss rfl rfl) <| aB rfl <| RL.nil <| CW.ret <| outP1 Tryd.results45 (congrArg B ?_) hH42.below
     (rw [row_yes hsz htl ‹¬ k < _› hg, show m = fnames r by rw [hm, List.take_of_length_le (by omega)]; rfl])
  ·refine gF rfl (bF h10) <| gF rfl (bF h10) <| gF rfl (bF h10) <| gF rfl (bF h10) <| gF rfl (bF h10) <| gF rfl (bF h10) <| gT rfl (bF h8) <| V (run_pickF (bF h10) (v := B false) rfl) <| V (run_pickF (bF h8) (v := B _) rfl) <| RL.nil <| CW.condF rfl <| CW.skip <| SR <| va (v := .slice none 0 0) rfl <| have hH44 := hH5.nilRow 9 1; RL.nil <| CW.seq <| SR <| V (fA underlying24 0 rfl sizeOf22 rfl) <| V (run_ldV (hr.fields.sl.hp hH44) underlying22 rfl rfl (hH44.cell (i := 1) rfl rfl)) <| V (run_lenSl (hr.fields.sl.hp hH44) rfl underlying22 rfl) <| vm (v := I 0) rfl <| RL.nil <| CW.block <| have hsz : r.fields.length ≤ 16 := (by omega); have htl : r.tail < 0 ∨ kdOk s r.tail 2 lat = true := (by exact .inl (by omega)); CW.loop (G := Int × (List Tx) × Value) (fun ⟨k, m, v7⟩ s' w' => (Fr (6 :: 7 :: (9 :: (rg 30 22 []))) _ s') ∧ (Hp w w' (.row v7 9 1 (m.length) (txL m) :: _)) ∧ (s' 7 = v7) ∧ (s' 30 = I k) ∧ (0 ≤ k) ∧ (k ≤ r.fields.length) ∧ (m = (r.fields.take k.toNat).map FieldR.name) ∧ ((m.length : Int) = k) ∧ (∀ j : Int, 0 ≤ j → j < k → fieldOk s lat (r.fields.getD j.toNat field0) = true)) (fun ⟨k, m, v7⟩ => (r.fields.length - k).toNat) ((0, [], (.slice none 0 0 : Value))) ⟨Fr.refl _ _, hH44, rfl, rfl, (by omega), (by omega), rfl, rfl, fun j a b => absurd b (by omega)⟩ <| ?_
   rintro ⟨k, m, v7⟩ sg45 w45 ⟨fr45, hH45, e7_45, e30_45, h0, hk, hm, hml, hg⟩
   have e1_45 := fr45.ii 1 rfl rfl
   have e3_45 := fr45.pp 3 rfl rfl
   have e28_45 := (fr45 28 rfl).trans (by conv => lhs; whnf)
   have e29_45 := fr45.ii 29 rfl rfl
   refine SR <| V (run_lss e30_45 e29_45) <| RL.nil <| CW.seq <| CW.condP rfl (fun h47 => ?_) (fun h47 => ?_)
   ·refine CW.skip <| CW.seq <| CW.block <| SR <| V (run_indexAddrS (hr.fields.sl.hp hH45) underlying22 sizeOf59 e28_45 e30_45 (by omega)) <| V (run_ldE (dv := field0) fieldL_len (hr.fields.sl.hp hH45) underlying59 rfl rfl rfl (by omega)) <| RL.new rfl hH45 (f := fun b => (.pointer (some ⟨b, 0, none⟩))) (run_alloc zero_field) <| fun b50 w48 hH49 => RL.set hH49 (i := 0) rfl (run_stW (c' := (fieldL _).toArray) rfl rfl rfl (fieldL_one _) (hH49.blk (i := 0) rfl) rfl) <| fun w51 hH52 => ?_
    simp only [z2] at hH52
    refine RL.nil <| CW.seq <| SR <| V (fA underlying59 0 rfl sizeOf9 rfl) <| V (run_ld underlying9 rfl rfl (hH52.cell (i := 0) rfl (v := .string _) rfl)) <| RL.callP rfl hH52 (c_name_Right _  _) (run_call1 call41 rfl) <| fun w53 hH54 => V (run_not rfl) <| mB rfl <| RL.split (dj := 38) rfl (fun h57 => ?_) (fun h57 => ?_)
    ·refine gF rfl (bR (c := true) h57) <| gF rfl (bR (c := true) h57) <| gF rfl (bR (c := true) h57) <| gF rfl (bR (c := true) h57) <| gF rfl (bR (c := true) h57) <| gF rfl (bR (c := true) h57) <| V (run_pickT (bR (c := true) h57) (v := B true) rfl) <| RL.nil <| CW.condT rfl <| SR <| va (v := B false) rfl <| RL.nil <| CW.ret <| outP1 Tryd.results45 (congrArg B ?_) hH54.below
     exact (row_no3 h0 ‹k < _› (field_no1 (nt ‹(!nameR _) = true›))).symm
    ·refine gT rfl (bR (c := false) h57) <| V (run_ldA (cs := scpL _) underlying48 rfl rfl e3_45 (rangeAt_cells (hH54.blk (i := 3) rfl))) <| gT rfl (bR (c := false) h57) <| vm e1_45 <| gT rfl (bR (c := false) h57) <| V (fA underlying59 1 rfl sizeOf35 rfl) <| gT rfl (bR (c := false) h57) <| V (run_ldSub (sub := atomL _) underlying35 rfl rfl rfl (hH54.blk (i := 0) rfl) (field_atB _)) <| gT rfl (bR (c := false) h57) <| RL.callP rfl hH54 (c_fit_isAtom _ _ _ (by omega) _ (hs.mono hH54.kw) (hT.hp hH54)) (run_call3 call47 rfl rfl rfl) <| fun w58 hH59 => gT rfl (bR (c := false) h57) <| V (run_not rfl) <| V (run_pickF (bR (c := false) h57) (v := B _) rfl) <| RL.nil <| CW.cond rfl (fun h62 => ?_) (fun h62 => ?_)
     ·refine SR <| va (v := B false) rfl <| RL.nil <| CW.ret <| outP1 Tryd.results45 (congrArg B ?_) hH59.below
      exact (row_no3 h0 ‹k < _› (field_no2 (nt ‹(!atomOk s lat _) = true›))).symm
     ·refine CW.skip <| CW.region <| vm e7_45 <| V (fA underlying59 0 rfl sizeOf9 rfl) <| V (run_ld underlying9 rfl rfl (hH59.cell (i := 0) rfl (v := .string _) rfl)) <| RL.new rfl hH59 (f := fun b => (.slice (some ⟨b, 0, none⟩) 1 1)) (run_mkL underlying62 rfl rfl (sz := 1) (vs := [.string _]) rfl rfl (by decide) (by decide) rfl rfl) <| fun b65 w63 hH64 => ?_
      (try simp only [clX] at hH64)
      refine RL.app rfl hH64 (i := 2) rfl (hH64.slBlk (i := 0) (n := 1) (sz := 1) rfl rfl (by decide)) rfl rfl underlying62 rfl rfl (size := 1) (bytes := 16) rfl rfl rfl (by decide) (by simp [Value.oneCell']) (by omega) (by simp only [maxLen]; omega) <| fun v66 w67 hH68 => ?_
      simp only [z2] at hH68
      refine V (run_assign (by conv => lhs; whnf)) ?_
      refine RL.nil <| CW.region <| V (run_add e30_45 rfl (by omega)) <| mI rfl <| RL.nil <| ?_
      refine ⟨(k + 1, m ++ [(r.fields.getD k.toNat field0).name], v66), ?_, fr45.u4.u4.u4.u4.u4.u4, (Hp.conv (hH68.sub (sQ (sQ sR))) (by simp)), rfl, (congrArg I (by rfl)), ?_, ?_, ?_, ?_, ?_⟩
      ·((try dsimp only); omega)
      ·omega
      ·omega
      ·rw [fnames_next h0 ‹k < _›, ← hm]
      ·simp only [List.length_append, List.length_singleton]; omega
      ·exact fun j a b => if e : j = k then e ▸ field_yes (nf ‹(!nameR _) = false›) (nf ‹(!atomOk s lat _) = false›) else hg j a (by omega)
   ·refine CW.exit (id := 0) rfl <| SR <| vm e7_45 <| RL.callP rfl hH45 (c_name_Twice _ _  _ (hH45.sl (i := 0) rfl)) (run_call1 call43 rfl) <| fun w69 hH70 => V (run_lss rfl rfl) <| aB rfl <| RL.nil <| CW.ret <| outP1 Tryd.results45 (congrArg B ?_) hH70.below
    (rw [row_yes hsz htl ‹¬ k < _› hg, show m = fnames r by rw [hm, List.take_of_length_le (by omega)]; rfl])
theorem c_fit_isCode (s : Scp) (lat : Int) (v : Value) (l : List InsR) (hlat : 0 ≤ lat ∧ lat < s.lats.length) (w : World) (hc : Sl w v 10 l.length (l.flatMap insL)) (hs : ScpV (Kw w) s) (hT : Tab w) : Calls Tryd.prog 46 #[.agg (scpC s), I lat, v] w (Pure (B (codeOk s lat l)) w) := by
 have hm1 := hs.lats.sl.small
 have hm2 := hs.vars.sl.small
 unfold maxLen at hm1 hm2
 have hm3 := hc.small
 unfold maxLen at hm3
 refine enter Tryd.func46 rfl Tryd.ntmps46 rfl <| have hH := Hp.start w; SR <| RL.new rfl hH (f := fun b => (.pointer (some ⟨b, 0, none⟩))) (run_box (v := .agg _) rfl) <| fun b3 w1 hH2 => va (v := B false) rfl <| RL.nil <| CW.seq <| SR <| ?_
 refine V (run_move (by conv => lhs; whnf)) ?_
 refine V (run_lenSl (hc.hp hH2) rfl underlying30 rfl) <| vm (v := I 0) rfl <| RL.nil <| CW.block <| CW.loop (G := Int) (fun k s' w' => (Fr (6 :: (8 :: (rg 11 31 []))) _ s') ∧ (Hp w w' _) ∧ (s' 11 = I k) ∧ (0 ≤ k) ∧ (k ≤ l.length) ∧ (∀ j : Int, 0 ≤ j → j < k → insOk s lat (l.getD j.toNat ins0) = true)) (fun k => (l.length - k).toNat) (0) ⟨Fr.refl _ _, hH2, rfl, (by omega), (by omega), fun j a b => absurd b (by omega)⟩ <| ?_
 rintro k sg4 w4 ⟨fr4, hH4, e11_4, h0, hk, hg⟩
 have e1_4 := fr4.ii 1 rfl rfl
 have e2_4 := (fr4 2 rfl).trans (by conv => lhs; whnf)
 have e3_4 := fr4.pp 3 rfl rfl
 have e9_4 := (fr4 9 rfl).trans (by conv => lhs; whnf)
 have e10_4 := fr4.ii 10 rfl rfl
 refine SR <| V (run_lss e11_4 e10_4) <| RL.nil <| CW.seq <| CW.condP rfl (fun h6 => ?_) (fun h6 => ?_)
 ·refine CW.skip <| CW.seq <| CW.block <| SR <| V (run_indexAddrS (hc.hp hH4) underlying30 sizeOf109 e9_4 e11_4 (by omega)) <| V (run_ldE (dv := ins0) insL_len (hc.hp hH4) underlying109 rfl rfl rfl (by omega)) <| RL.new rfl hH4 (f := fun b => (.pointer (some ⟨b, 0, none⟩))) (run_alloc zero_ins) <| fun b9 w7 hH8 => RL.set hH8 (i := 0) rfl (run_stW (c' := (insL _).toArray) rfl rfl rfl (insL_one _) (hH8.blk (i := 0) rfl) rfl) <| fun w10 hH11 => ?_
  simp only [z2] at hH11
  refine RL.nil <| CW.seq <| SR <| V (fA underlying109 0 rfl sizeOf3 rfl) <| V (run_ld underlying3 rfl rfl (hH11.cell (i := 0) rfl (v := I _) rfl)) <| V (run_eql rfl rfl) <| mB rfl <| RL.splitP (dj := 18) rfl (fun h13 => ?_) (fun h13 => ?_)
  ·refine gT rfl (bT h13) <| V (run_ldA (cs := scpL _) underlying48 rfl rfl e3_4 (rangeAt_cells (hH11.blk (i := 1) rfl))) <| gT rfl (bT h13) <| V (fA underlying109 1 rfl sizeOf3 rfl) <| gT rfl (bT h13) <| V (run_ld underlying3 rfl rfl (hH11.cell (i := 0) rfl (v := I _) rfl)) <| gT rfl (bT h13) <| vm e1_4 <| gT rfl (bT h13) <| RL.callP rfl hH11 (c_fit_is _ _ _ _  _ (hs.mono hH11.kw)) (run_call4 call44 rfl rfl (show _ = I 1 from rfl) rfl) <| fun w14 hH15 => gT rfl (bT h13) <| V (run_not rfl) <| V (run_pickT (bT h13) (v := B _) rfl) <| RL.nil <| CW.cond rfl (fun h18 => ?_) (fun h18 => ?_)
   ·refine SR <| va (v := B false) rfl <| RL.nil <| CW.ret <| outP1 Tryd.results46 (congrArg B ?_) hH15.below
    exact (code_no1 h0 ‹k < _› (ins_no1 ‹(List.getD l _ _).op = 1› (nt ‹(!kdOk s _ 1 lat) = true›))).symm
   ·refine CW.skip <| CW.seq <| CW.regionD (by kernel_rfl) hH15 <| fun w19 hH20 => have zh20 := hH20.sub sR; AQ 0 rfl zh20 (fA underlying109 0 rfl sizeOf3 rfl) <| AT 1 rfl zh20 (fun w hS => run_ld underlying3 rfl rfl (hS.cell (i := 0) rfl (v := I _) rfl)) <| AQ 2 rfl zh20 (run_eql rfl rfl) <| AQ 3 rfl zh20 (mV (B _) rfl) <| AN.splitP (dj := 29) rfl (fun h22 => ?_) (fun h22 => ?_)
    ·refine AG 4 rfl rfl (bT h22) (hH20.sub sR) (fun w hS => fA underlying48 0 rfl sizeOf45 e3_4) <| AG 5 rfl rfl (bT h22) (hH20.sub sR) (fun w hS => run_ldV (hs.lats.sl.hp hS) underlying45 rfl rfl (hS.cell (i := 1) rfl rfl)) <| AG 6 rfl rfl (bT h22) (hH20.sub sR) (fun w hS => run_move e1_4) <| AG 7 rfl rfl (bT h22) (hH20.sub sR) (fun w hS => run_indexAddrS (hs.lats.sl.hp hS) underlying45 sizeOf72 rfl rfl (by omega)) <| AG 8 rfl rfl (bT h22) (hH20.sub sR) (fun w hS => fA underlying72 1 rfl sizeOf70 rfl) <| AG 9 rfl rfl (bT h22) (hH20.sub sR) (fun w hS => run_ldEA (dv := lat0) (off := 1) (cs := shpL _) latL_len (hs.lats.sl.hp hS) underlying70 rfl rfl rfl (by omega) (lat_shp _)) <| AG 10 rfl rfl (bT h22) (hH20.sub sR) (fun w hS => fA underlying109 2 rfl sizeOf33 rfl) <| AG 11 rfl rfl (bT h22) (hH20.sub sR) (fun w hS => run_ldElR underlying33 rfl rfl rfl (hS.blk (i := 0) rfl) (ins_elB _)) <| A1 12 <| AO.callP rfl (gsome rfl (bT h22)) rfl hH20 sR (c_shape_Fits _ _  _ ((hs.at (by omega) (by omega)).mono hH20.kw) (hT.hp hH20)) (run_call2 call26 rfl rfl) <| fun w23 hH24 => AG 13 rfl rfl (bT h22) (hH24.sub sR) (fun w hS => run_not rfl) <| AQ 14 rfl (hH24.sub sR) (run_pickT (bT h22) (v := B _) rfl) <| AD <| CW.cond rfl (fun h27 => ?_) (fun h27 => ?_)
     ·refine SR <| va (v := B false) rfl <| RL.nil <| CW.ret <| outP1 Tryd.results46 (congrArg B ?_) hH24.below
      exact (code_no1 h0 ‹k < _› (ins_no2 ‹(List.getD l _ _).op = 2› (nt ‹(!fitsS _ _) = true›))).symm
     ·refine CW.skip <| CW.region <| V (run_add e11_4 rfl (by omega)) <| mI rfl <| RL.nil <| ?_
      refine ⟨k + 1, ?_, fr4.u4.u4.u4.u4.u4.u4.u4.u4, (hH24.sub (sQ sR)), (congrArg I (by rfl)), ?_, ?_, ?_⟩
      ·((try dsimp only); omega)
      ·omega
      ·omega
      ·exact fun j a b => if e : j = k then e ▸ ins_yes (by exact .inr (nf ‹(!kdOk s _ 1 lat) = false›)) (by exact .inr (nf ‹(!fitsS _ _) = false›)) else hg j a (by omega)
    ·refine AK 4 rfl rfl (bF h22) (hH20.sub sR) <| AK 5 rfl rfl (bF h22) (hH20.sub sR) <| AK 6 rfl rfl (bF h22) (hH20.sub sR) <| AK 7 rfl rfl (bF h22) (hH20.sub sR) <| AK 8 rfl rfl (bF h22) (hH20.sub sR) <| AK 9 rfl rfl (bF h22) (hH20.sub sR) <| AK 10 rfl rfl (bF h22) (hH20.sub sR) <| AK 11 rfl rfl (bF h22) (hH20.sub sR) <| AK 12 rfl rfl (bF h22) (hH20.sub sR) <| AK 13 rfl rfl (bF h22) (hH20.sub sR) <| AQ 14 rfl zh20 (run_pickF (bF h22) (v := B false) rfl) <| AD <| CW.condF rfl <| CW.skip <| CW.region <| V (run_add e11_4 rfl (by omega)) <| mI rfl <| RL.nil <| ?_
     refine ⟨k + 1, ?_, fr4.u4.u4.u4.u4.u4.u4.u4.u4, (hH20.sub (sQ sR)), (congrArg I (by rfl)), ?_, ?_, ?_⟩
     ·((try dsimp only); omega)
     ·omega
     ·omega
     ·exact fun j a b => if e : j = k then e ▸ ins_yes (by exact .inr (nf ‹(!kdOk s _ 1 lat) = false›)) (by exact .inl ‹¬ (List.getD l _ _).op = 2›) else hg j a (by omega)
  ·refine gF rfl (bF h13) <| gF rfl (bF h13) <| gF rfl (bF h13) <| gF rfl (bF h13) <| gF rfl (bF h13) <| gF rfl (bF h13) <| V (run_pickF (bF h13) (v := B false) rfl) <| RL.nil <| CW.condF rfl <| CW.skip <| CW.seq <| CW.regionD (by kernel_rfl) hH11 <| fun w28 hH29 => have zh29 := hH29.sub sR; AQ 0 rfl zh29 (fA underlying109 0 rfl sizeOf3 rfl) <| AT 1 rfl zh29 (fun w hS => run_ld underlying3 rfl rfl (hS.cell (i := 0) rfl (v := I _) rfl)) <| AQ 2 rfl zh29 (run_eql rfl rfl) <| AQ 3 rfl zh29 (mV (B _) rfl) <| AN.splitP (dj := 29) rfl (fun h31 => ?_) (fun h31 => ?_)
   ·refine AG 4 rfl rfl (bT h31) (hH29.sub sR) (fun w hS => fA underlying48 0 rfl sizeOf45 e3_4) <| AG 5 rfl rfl (bT h31) (hH29.sub sR) (fun w hS => run_ldV (hs.lats.sl.hp hS) underlying45 rfl rfl (hS.cell (i := 1) rfl rfl)) <| AG 6 rfl rfl (bT h31) (hH29.sub sR) (fun w hS => run_move e1_4) <| AG 7 rfl rfl (bT h31) (hH29.sub sR) (fun w hS => run_indexAddrS (hs.lats.sl.hp hS) underlying45 sizeOf72 rfl rfl (by omega)) <| AG 8 rfl rfl (bT h31) (hH29.sub sR) (fun w hS => fA underlying72 1 rfl sizeOf70 rfl) <| AG 9 rfl rfl (bT h31) (hH29.sub sR) (fun w hS => run_ldEA (dv := lat0) (off := 1) (cs := shpL _) latL_len (hs.lats.sl.hp hS) underlying70 rfl rfl rfl (by omega) (lat_shp _)) <| AG 10 rfl rfl (bT h31) (hH29.sub sR) (fun w hS => fA underlying109 2 rfl sizeOf33 rfl) <| AG 11 rfl rfl (bT h31) (hH29.sub sR) (fun w hS => run_ldElR underlying33 rfl rfl rfl (hS.blk (i := 0) rfl) (ins_elB _)) <| A1 12 <| AO.callP rfl (gsome rfl (bT h31)) rfl hH29 sR (c_shape_Fits _ _  _ ((hs.at (by omega) (by omega)).mono hH29.kw) (hT.hp hH29)) (run_call2 call26 rfl rfl) <| fun w32 hH33 => AG 13 rfl rfl (bT h31) (hH33.sub sR) (fun w hS => run_not rfl) <| AQ 14 rfl (hH33.sub sR) (run_pickT (bT h31) (v := B _) rfl) <| AD <| CW.cond rfl (fun h36 => ?_) (fun h36 => ?_)
    ·refine SR <| va (v := B false) rfl <| RL.nil <| CW.ret <| outP1 Tryd.results46 (congrArg B ?_) hH33.below
     exact (code_no1 h0 ‹k < _› (ins_no2 ‹(List.getD l _ _).op = 2› (nt ‹(!fitsS _ _) = true›))).symm
    ·refine CW.skip <| CW.region <| V (run_add e11_4 rfl (by omega)) <| mI rfl <| RL.nil <| ?_
     refine ⟨k + 1, ?_, fr4.u4.u4.u4.u4.u4.u4.u4.u4, (hH33.sub (sQ sR)), (congrArg I (by rfl)), ?_, ?_, ?_⟩
     ·((try dsimp only); omega)
     ·omega
     ·omega
     ·exact fun j a b => if e : j = k then e ▸ ins_yes (by exact .inl ‹¬ (List.getD l _ _).op = 1›) (by exact .inr (nf ‹(!fitsS _ _) = false›)) else hg j a (by omega)
   ·refine AK 4 rfl rfl (bF h31) (hH29.sub sR) <| AK 5 rfl rfl (bF h31) (hH29.sub sR) <| AK 6 rfl rfl (bF h31) (hH29.sub sR) <| AK 7 rfl rfl (bF h31) (hH29.sub sR) <| AK 8 rfl rfl (bF h31) (hH29.sub sR) <| AK 9 rfl rfl (bF h31) (hH29.sub sR) <| AK 10 rfl rfl (bF h31) (hH29.sub sR) <| AK 11 rfl rfl (bF h31) (hH29.sub sR) <| AK 12 rfl rfl (bF h31) (hH29.sub sR) <| AK 13 rfl rfl (bF h31) (hH29.sub sR) <| AQ 14 rfl zh29 (run_pickF (bF h31) (v := B false) rfl) <| AD <| CW.condF rfl <| CW.skip <| CW.region <| V (run_add e11_4 rfl (by omega)) <| mI rfl <| RL.nil <| ?_
    refine ⟨k + 1, ?_, fr4.u4.u4.u4.u4.u4.u4.u4.u4, (hH29.sub (sQ sR)), (congrArg I (by rfl)), ?_, ?_, ?_⟩
    ·((try dsimp only); omega)
    ·omega
    ·omega
    ·exact fun j a b => if e : j = k then e ▸ ins_yes (by exact .inl ‹¬ (List.getD l _ _).op = 1›) (by exact .inl ‹¬ (List.getD l _ _).op = 2›) else hg j a (by omega)
 ·refine CW.exit (id := 0) rfl <| SR <| vm e2_4 <| RL.callP rfl hH4 (c_code_Right _ _  _ (hc.hp hH4)) (run_call1 call51 rfl) <| fun w37 hH38 => aB rfl <| RL.nil <| CW.ret <| outP1 Tryd.results46 (congrArg B ?_) hH38.below
  (rw [code_yes ‹¬ k < _› hg])
theorem c_fit_Right (s : Scp) (x : AssR) (w : World) (hs : ScpV (Kw w) s) (hx : AssV (Kw w) x) (hT : Tab w) : Calls Tryd.prog 25 #[.agg (scpC s), .agg (assL x).toArray] w (Pure (B (assOk s x)) w) := by
 have hm1 := hs.lats.sl.small
 have hm2 := hs.vars.sl.small
 unfold maxLen at hm1 hm2
 have hm3 := hx.code.small
 unfold maxLen at hm3
 refine enter Tryd.func25 rfl Tryd.ntmps25 rfl <| have hH := Hp.start w; SR <| RL.new rfl hH (f := fun b => (.pointer (some ⟨b, 0, none⟩))) (run_box (v := .agg _) rfl) <| fun b3 w1 hH2 => RL.new rfl hH2 (f := fun b => (.pointer (some ⟨b, 0, none⟩))) (run_box (v := .agg _) rfl) <| fun b6 w4 hH5 => va (v := B false) rfl <| RL.nil <| SR <| V (fA underlying37 1 rfl sizeOf3 rfl) <| V (run_ld underlying3 rfl rfl (hH5.cell (i := 0) rfl (v := I _) rfl)) <| V (run_geq rfl rfl) <| mB rfl <| RL.splitP (dj := 9) rfl (fun h8 => ?_) (fun h8 => ?_)
 ·refine gT rfl (bT h8) <| V (fA underlying37 1 rfl sizeOf3 rfl) <| gT rfl (bT h8) <| V (run_ld underlying3 rfl rfl (hH5.cell (i := 0) rfl (v := I _) rfl)) <| gT rfl (bT h8) <| V (fA underlying48 0 rfl sizeOf45 rfl) <| gT rfl (bT h8) <| V (run_ldV (hs.lats.sl.hp hH5) underlying45 rfl rfl (hH5.cell (i := 1) rfl rfl)) <| gT rfl (bT h8) <| V (run_lenSl (hs.lats.sl.hp hH5) rfl underlying45 rfl) <| gT rfl (bT h8) <| V (run_lss rfl rfl) <| V (run_pickT (bT h8) (v := B _) rfl) <| aB rfl <| RL.nil <| CW.seq <| SR <| V (fA underlying37 0 rfl sizeOf3 rfl) <| V (run_ld underlying3 rfl rfl (hH5.cell (i := 0) rfl (v := I _) rfl)) <| RL.nil <| CW.block <| SR <| V (run_eql rfl rfl) <| aB rfl <| RL.nil <| CW.condP rfl (fun h11 => ?_) (fun h11 => ?_)
  ·refine SR <| V (run_ldA (cs := scpL _) underlying48 rfl rfl rfl (rangeAt_cells (hH5.blk (i := 1) rfl))) <| V (fA underlying37 16 rfl sizeOf3 rfl) <| V (run_ld underlying3 rfl rfl (hH5.cell (i := 0) rfl (v := I _) rfl)) <| V (fA underlying37 1 rfl sizeOf3 rfl) <| V (run_ld underlying3 rfl rfl (hH5.cell (i := 0) rfl (v := I _) rfl)) <| RL.callP rfl hH5 (c_fit_is _ _ _ _  _ (hs.mono hH5.kw)) (run_call4 call44 rfl rfl (show _ = I 2 from rfl) rfl) <| fun w12 hH13 => mB rfl <| RL.split (dj := 27) rfl (fun h15 => ?_) (fun h15 => ?_)
   ·refine gT rfl (bR (c := true) h15) <| V (fA underlying37 17 rfl sizeOf9 rfl) <| gT rfl (bR (c := true) h15) <| V (run_ld underlying9 rfl rfl (hH13.cell (i := 0) rfl (v := .string _) rfl)) <| gT rfl (bR (c := true) h15) <| RL.callP rfl hH13 (c_name_Right _  _) (run_call1 call41 rfl) <| fun w16 hH17 => V (run_pickT (bR (c := true) h15) (v := B _) rfl) <| aB rfl <| RL.nil <| CW.ret <| outP1 Tryd.results25 (congrArg B ?_) hH17.below
    (rw [ass_10 ‹x.op = 10›, ‹kdOk s x.var 2 x.lat = true›, Bool.true_and]; done)
   ·refine gF rfl (bR (c := false) h15) <| gF rfl (bR (c := false) h15) <| gF rfl (bR (c := false) h15) <| V (run_pickF (bR (c := false) h15) (v := B false) rfl) <| aB rfl <| RL.nil <| CW.ret <| outP1 Tryd.results25 (congrArg B ?_) hH13.below
    (rw [ass_10 ‹x.op = 10›, ‹kdOk s x.var 2 x.lat = false›, Bool.false_and]; done)
  ·refine SR <| V (run_eql rfl rfl) <| aB rfl <| RL.nil <| CW.condP rfl (fun h20 => ?_) (fun h20 => ?_)
   ·refine SR <| mB rfl <| mB rfl <| RL.splitP (dj := 35) rfl (fun h21 => ?_) (fun h21 => ?_)
    ·refine gT rfl (bT h21) <| V (run_ldA (cs := scpL _) underlying48 rfl rfl rfl (rangeAt_cells (hH5.blk (i := 1) rfl))) <| gT rfl (bT h21) <| V (fA underlying37 1 rfl sizeOf3 rfl) <| gT rfl (bT h21) <| V (run_ld underlying3 rfl rfl (hH5.cell (i := 0) rfl (v := I _) rfl)) <| gT rfl (bT h21) <| V (fA underlying37 12 rfl sizeOf24 rfl) <| gT rfl (bT h21) <| V (run_ldSub (sub := rtmL _) underlying24 rfl rfl rfl (hH5.blk (i := 0) rfl) (ass_aB _)) <| gT rfl (bT h21) <| RL.callP rfl hH5 (c_fit_isRow _ _ _ (by omega) _ (hs.mono hH5.kw) (hx.a.mono hH5.kw) (hT.hp hH5)) (run_call3 call45 rfl rfl rfl) <| fun w22 hH23 => V (run_pickT (bT h21) (v := B _) rfl) <| mB rfl <| RL.split (dj := 43) rfl (fun h25 => ?_) (fun h25 => ?_)
     ·refine gT rfl (bR (c := true) h25) <| V (run_ldA (cs := scpL _) underlying48 rfl rfl rfl (rangeAt_cells (hH23.blk (i := 1) rfl))) <| gT rfl (bR (c := true) h25) <| V (fA underlying37 1 rfl sizeOf3 rfl) <| gT rfl (bR (c := true) h25) <| V (run_ld underlying3 rfl rfl (hH23.cell (i := 0) rfl (v := I _) rfl)) <| gT rfl (bR (c := true) h25) <| V (fA underlying37 14 rfl sizeOf24 rfl) <| gT rfl (bR (c := true) h25) <| V (run_ldSub (sub := rtmL _) underlying24 rfl rfl rfl (hH23.blk (i := 0) rfl) (ass_bB _)) <| gT rfl (bR (c := true) h25) <| RL.callP rfl hH23 (c_fit_isRow _ _ _ (by omega) _ (hs.mono hH23.kw) (hx.b.mono hH23.kw) (hT.hp hH23)) (run_call3 call45 rfl rfl rfl) <| fun w26 hH27 => V (run_pickT (bR (c := true) h25) (v := B _) rfl) <| aB rfl <| RL.nil <| CW.ret <| outP1 Tryd.results25 (congrArg B ?_) hH27.below
      (rw [ass_9 ‹x.op = 9› (show 0 ≤ x.lat ∧ x.lat < s.lats.length by omega), ‹rowOk s x.lat x.a = true›, Bool.true_and]; done)
     ·refine gF rfl (bR (c := false) h25) <| gF rfl (bR (c := false) h25) <| gF rfl (bR (c := false) h25) <| gF rfl (bR (c := false) h25) <| gF rfl (bR (c := false) h25) <| gF rfl (bR (c := false) h25) <| V (run_pickF (bR (c := false) h25) (v := B false) rfl) <| aB rfl <| RL.nil <| CW.ret <| outP1 Tryd.results25 (congrArg B ?_) hH23.below
      (rw [ass_9 ‹x.op = 9› (show 0 ≤ x.lat ∧ x.lat < s.lats.length by omega), ‹rowOk s x.lat x.a = false›, Bool.false_and]; done)
    ·refine gF rfl (bF h21) <| gF rfl (bF h21) <| gF rfl (bF h21) <| gF rfl (bF h21) <| gF rfl (bF h21) <| gF rfl (bF h21) <| V (run_pickF (bF h21) (v := B false) rfl) <| mB rfl <| gF rfl rfl <| gF rfl rfl <| gF rfl rfl <| gF rfl rfl <| gF rfl rfl <| gF rfl rfl <| V (run_pickF rfl (v := B false) rfl) <| aB rfl <| RL.nil <| CW.ret <| outP1 Tryd.results25 (congrArg B ?_) hH5.below
     (rw [ass_no (by omega) (by omega)]; done)
   ·refine SR <| V (run_eql rfl rfl) <| aB rfl <| RL.nil <| CW.condP rfl (fun h30 => ?_) (fun h30 => ?_)
    ·refine SR <| mB rfl <| mB rfl <| RL.splitP (dj := 54) rfl (fun h31 => ?_) (fun h31 => ?_)
     ·refine gT rfl (bT h31) <| V (run_ldA (cs := scpL _) underlying48 rfl rfl rfl (rangeAt_cells (hH5.blk (i := 1) rfl))) <| gT rfl (bT h31) <| V (fA underlying37 1 rfl sizeOf3 rfl) <| gT rfl (bT h31) <| V (run_ld underlying3 rfl rfl (hH5.cell (i := 0) rfl (v := I _) rfl)) <| gT rfl (bT h31) <| V (fA underlying37 2 rfl sizeOf30 rfl) <| gT rfl (bT h31) <| V (run_ldV (hx.code.sl.hp hH5) underlying30 rfl rfl (hH5.cell (i := 0) rfl rfl)) <| gT rfl (bT h31) <| RL.callP rfl hH5 (c_fit_isCode _ _ _ _ (by omega) _ (hx.code.sl.hp hH5) (hs.mono hH5.kw) (hT.hp hH5)) (run_call3 call46 rfl rfl rfl) <| fun w32 hH33 => V (run_pickT (bT h31) (v := B _) rfl) <| mB rfl <| RL.split (dj := 62) rfl (fun h35 => ?_) (fun h35 => ?_)
      ·refine gT rfl (bR (c := true) h35) <| V (run_ldA (cs := scpL _) underlying48 rfl rfl rfl (rangeAt_cells (hH33.blk (i := 1) rfl))) <| gT rfl (bR (c := true) h35) <| V (fA underlying37 1 rfl sizeOf3 rfl) <| gT rfl (bR (c := true) h35) <| V (run_ld underlying3 rfl rfl (hH33.cell (i := 0) rfl (v := I _) rfl)) <| gT rfl (bR (c := true) h35) <| V (fA underlying37 3 rfl sizeOf35 rfl) <| gT rfl (bR (c := true) h35) <| V (run_ldSub (sub := atomL _) underlying35 rfl rfl rfl (hH33.blk (i := 0) rfl) (ass_toB _)) <| gT rfl (bR (c := true) h35) <| RL.callP rfl hH33 (c_fit_isAtom _ _ _ (by omega) _ (hs.mono hH33.kw) (hT.hp hH33)) (run_call3 call47 rfl rfl rfl) <| fun w36 hH37 => V (run_pickT (bR (c := true) h35) (v := B _) rfl) <| aB rfl <| RL.nil <| CW.ret <| outP1 Tryd.results25 (congrArg B ?_) hH37.below
       (rw [ass_8 ‹x.op = 8› (show 0 ≤ x.lat ∧ x.lat < s.lats.length by omega), ‹codeOk s x.lat x.code = true›, Bool.true_and]; done)
      ·refine gF rfl (bR (c := false) h35) <| gF rfl (bR (c := false) h35) <| gF rfl (bR (c := false) h35) <| gF rfl (bR (c := false) h35) <| gF rfl (bR (c := false) h35) <| gF rfl (bR (c := false) h35) <| V (run_pickF (bR (c := false) h35) (v := B false) rfl) <| aB rfl <| RL.nil <| CW.ret <| outP1 Tryd.results25 (congrArg B ?_) hH33.below
       (rw [ass_8 ‹x.op = 8› (show 0 ≤ x.lat ∧ x.lat < s.lats.length by omega), ‹codeOk s x.lat x.code = false›, Bool.false_and]; done)
     ·refine gF rfl (bF h31) <| gF rfl (bF h31) <| gF rfl (bF h31) <| gF rfl (bF h31) <| gF rfl (bF h31) <| gF rfl (bF h31) <| V (run_pickF (bF h31) (v := B false) rfl) <| mB rfl <| gF rfl rfl <| gF rfl rfl <| gF rfl rfl <| gF rfl rfl <| gF rfl rfl <| gF rfl rfl <| V (run_pickF rfl (v := B false) rfl) <| aB rfl <| RL.nil <| CW.ret <| outP1 Tryd.results25 (congrArg B ?_) hH5.below
      (rw [ass_no (by omega) (by omega)]; done)
    ·refine CW.skip <| SR <| va (v := B false) rfl <| RL.nil <| CW.ret <| outP1 Tryd.results25 (congrArg B ?_) hH5.below
     (rw [ass_x (by omega) (by omega) (by omega)]; done)
 ·refine gF rfl (bF h8) <| gF rfl (bF h8) <| gF rfl (bF h8) <| gF rfl (bF h8) <| gF rfl (bF h8) <| gF rfl (bF h8) <| V (run_pickF (bF h8) (v := B false) rfl) <| aB rfl <| RL.nil <| CW.seq <| SR <| V (fA underlying37 0 rfl sizeOf3 rfl) <| V (run_ld underlying3 rfl rfl (hH5.cell (i := 0) rfl (v := I _) rfl)) <| RL.nil <| CW.block <| SR <| V (run_eql rfl rfl) <| aB rfl <| RL.nil <| CW.condP rfl (fun h40 => ?_) (fun h40 => ?_)
  ·refine SR <| V (run_ldA (cs := scpL _) underlying48 rfl rfl rfl (rangeAt_cells (hH5.blk (i := 1) rfl))) <| V (fA underlying37 16 rfl sizeOf3 rfl) <| V (run_ld underlying3 rfl rfl (hH5.cell (i := 0) rfl (v := I _) rfl)) <| V (fA underlying37 1 rfl sizeOf3 rfl) <| V (run_ld underlying3 rfl rfl (hH5.cell (i := 0) rfl (v := I _) rfl)) <| RL.callP rfl hH5 (c_fit_is _ _ _ _  _ (hs.mono hH5.kw)) (run_call4 call44 rfl rfl (show _ = I 2 from rfl) rfl) <| fun w41 hH42 => mB rfl <| RL.split (dj := 27) rfl (fun h44 => ?_) (fun h44 => ?_)
   ·refine gT rfl (bR (c := true) h44) <| V (fA underlying37 17 rfl sizeOf9 rfl) <| gT rfl (bR (c := true) h44) <| V (run_ld underlying9 rfl rfl (hH42.cell (i := 0) rfl (v := .string _) rfl)) <| gT rfl (bR (c := true) h44) <| RL.callP rfl hH42 (c_name_Right _  _) (run_call1 call41 rfl) <| fun w45 hH46 => V (run_pickT (bR (c := true) h44) (v := B _) rfl) <| aB rfl <| RL.nil <| CW.ret <| outP1 Tryd.results25 (congrArg B ?_) hH46.below
    (rw [ass_10 ‹x.op = 10›, ‹kdOk s x.var 2 x.lat = true›, Bool.true_and]; done)
   ·refine gF rfl (bR (c := false) h44) <| gF rfl (bR (c := false) h44) <| gF rfl (bR (c := false) h44) <| V (run_pickF (bR (c := false) h44) (v := B false) rfl) <| aB rfl <| RL.nil <| CW.ret <| outP1 Tryd.results25 (congrArg B ?_) hH42.below
    (rw [ass_10 ‹x.op = 10›, ‹kdOk s x.var 2 x.lat = false›, Bool.false_and]; done)
  ·refine SR <| V (run_eql rfl rfl) <| aB rfl <| RL.nil <| CW.condP rfl (fun h49 => ?_) (fun h49 => ?_)
   ·refine SR <| mB rfl <| mB rfl <| gF rfl rfl <| gF rfl rfl <| gF rfl rfl <| gF rfl rfl <| gF rfl rfl <| gF rfl rfl <| V (run_pickF rfl (v := B false) rfl) <| mB rfl <| gF rfl rfl <| gF rfl rfl <| gF rfl rfl <| gF rfl rfl <| gF rfl rfl <| gF rfl rfl <| V (run_pickF rfl (v := B false) rfl) <| aB rfl <| RL.nil <| CW.ret <| outP1 Tryd.results25 (congrArg B ?_) hH5.below
    (rw [ass_no (by omega) (by omega)]; done)
   ·refine SR <| V (run_eql rfl rfl) <| aB rfl <| RL.nil <| CW.condP rfl (fun h51 => ?_) (fun h51 => ?_)
    ·refine SR <| mB rfl <| mB rfl <| gF rfl rfl <| gF rfl rfl <| gF rfl rfl <| gF rfl rfl <| gF rfl rfl <| gF rfl rfl <| V (run_pickF rfl (v := B false) rfl) <| mB rfl <| gF rfl rfl <| gF rfl rfl <| gF rfl rfl <| gF rfl rfl <| gF rfl rfl <| gF rfl rfl <| V (run_pickF rfl (v := B false) rfl) <| aB rfl <| RL.nil <| CW.ret <| outP1 Tryd.results25 (congrArg B ?_) hH5.below
     (rw [ass_no (by omega) (by omega)]; done)
    ·refine CW.skip <| SR <| va (v := B false) rfl <| RL.nil <| CW.ret <| outP1 Tryd.results25 (congrArg B ?_) hH5.below
     (rw [ass_no (by omega) (by omega)]; done)
theorem c_scope_Right (s : Scp) (w : World) (hs : ScpV (Kw w) s) (hT : Tab w) : Calls Tryd.prog 24 #[.agg (scpC s)] w (Pure (B (rightS s)) w) := by
 have hm1 := hs.lats.sl.small
 have hm2 := hs.vars.sl.small
 unfold maxLen at hm1 hm2
 refine enter Tryd.func24 rfl Tryd.ntmps24 rfl <| have hH := Hp.start w; SR <| RL.new rfl hH (f := fun b => (.pointer (some ⟨b, 0, none⟩))) (run_box (v := .agg _) rfl) <| fun b3 w1 hH2 => va (v := B false) rfl <| RL.nil <| CW.seq <| SR <| V (fA underlying48 0 rfl sizeOf45 rfl) <| V (run_ldV (hs.lats.sl.hp hH2) underlying45 rfl rfl (hH2.cell (i := 0) rfl rfl)) <| V (run_lenSl (hs.lats.sl.hp hH2) rfl underlying45 rfl) <| V (run_gtr rfl rfl) <| mB rfl <| RL.splitP (dj := 12) rfl (fun h5 => ?_) (fun h5 => ?_)
 ·refine gF rfl (bT h5) <| gF rfl (bT h5) <| gF rfl (bT h5) <| gF rfl (bT h5) <| V (run_pickT (bT h5) (v := B true) rfl) <| RL.nil <| CW.condT rfl <| SR <| va (v := B false) rfl <| RL.nil <| CW.ret <| outP1 Tryd.results24 (congrArg B ?_) hH2.below
  exact (right_no1 (by omega)).symm
 ·refine gT rfl (bF h5) <| V (fA underlying48 1 rfl sizeOf46 rfl) <| gT rfl (bF h5) <| V (run_ldV (hs.vars.sl.hp hH2) underlying46 rfl rfl (hH2.cell (i := 0) rfl rfl)) <| gT rfl (bF h5) <| V (run_lenSl (hs.vars.sl.hp hH2) rfl underlying46 rfl) <| gT rfl (bF h5) <| V (run_gtr rfl rfl) <| V (run_pickF (bF h5) (v := B _) rfl) <| RL.nil <| CW.condP rfl (fun h7 => ?_) (fun h7 => ?_)
  ·refine SR <| va (v := B false) rfl <| RL.nil <| CW.ret <| outP1 Tryd.results24 (congrArg B ?_) hH2.below
   exact (right_no1 (by omega)).symm
  ·refine CW.skip <| SR <| va (v := .slice none 0 0) rfl <| have hH8 := hH2.nilRow 9 1; RL.nil <| CW.seq <| SR <| V (fA underlying48 0 rfl sizeOf45 rfl) <| V (run_ldV (hs.lats.sl.hp hH8) underlying45 rfl rfl (hH8.cell (i := 1) rfl rfl)) <| V (run_lenSl (hs.lats.sl.hp hH8) rfl underlying45 rfl) <| vm (v := I 0) rfl <| RL.nil <| CW.block <| have hsz : s.lats.length ≤ 16 ∧ s.vars.length ≤ 64 := (by omega); CW.loop (G := Int × (List Tx) × Value) (fun ⟨k, m, v3⟩ s' w' => (Fr (2 :: 3 :: (5 :: (rg 21 20 []))) _ s') ∧ (Hp w w' (.row v3 9 1 (m.length) (txL m) :: _)) ∧ (s' 3 = v3) ∧ (s' 21 = I k) ∧ (0 ≤ k) ∧ (k ≤ s.lats.length) ∧ (m = (s.lats.take k.toNat).map LatR.name) ∧ ((m.length : Int) = k) ∧ (∀ j : Int, 0 ≤ j → j < k → latOk (s.lats.getD j.toNat lat0) = true)) (fun ⟨k, m, v3⟩ => (s.lats.length - k).toNat) ((0, [], (.slice none 0 0 : Value))) ⟨Fr.refl _ _, hH8, rfl, rfl, (by omega), (by omega), rfl, rfl, fun j a b => absurd b (by omega)⟩ <| ?_
   rintro ⟨k, m, v3⟩ sg9 w9 ⟨fr9, hH9, e3_9, e21_9, h0, hk, hm, hml, hg⟩
   have e1_9 := fr9.pp 1 rfl rfl
   have e19_9 := (fr9 19 rfl).trans (by conv => lhs; whnf)
   have e20_9 := fr9.ii 20 rfl rfl
   refine SR <| V (run_lss e21_9 e20_9) <| RL.nil <| CW.seq <| CW.condP rfl (fun h11 => ?_) (fun h11 => ?_)
   ·refine CW.skip <| CW.seq <| CW.block <| SR <| V (run_indexAddrS (hs.lats.sl.hp hH9) underlying45 sizeOf72 e19_9 e21_9 (by omega)) <| V (run_ldE (dv := lat0) latL_len (hs.lats.sl.hp hH9) underlying72 rfl rfl rfl (by omega)) <| RL.new rfl hH9 (f := fun b => (.pointer (some ⟨b, 0, none⟩))) (run_alloc zero_lat) <| fun b14 w12 hH13 => RL.set hH13 (i := 0) rfl (run_stW (c' := (latL _).toArray) rfl rfl rfl (latL_one (hs.at (by omega) (by omega))) (hH13.blk (i := 0) rfl) rfl) <| fun w15 hH16 => ?_
    simp only [z2] at hH16
    refine RL.nil <| CW.seq <| SR <| V (fA underlying72 0 rfl sizeOf9 rfl) <| V (run_ld underlying9 rfl rfl (hH16.cell (i := 0) rfl (v := .string _) rfl)) <| RL.callP rfl hH16 (c_name_Right _  _) (run_call1 call41 rfl) <| fun w17 hH18 => V (run_not rfl) <| mB rfl <| RL.split (dj := 29) rfl (fun h21 => ?_) (fun h21 => ?_)
    ·refine gF rfl (bR (c := true) h21) <| gF rfl (bR (c := true) h21) <| gF rfl (bR (c := true) h21) <| gF rfl (bR (c := true) h21) <| V (run_pickT (bR (c := true) h21) (v := B true) rfl) <| RL.nil <| CW.condT rfl <| SR <| va (v := B false) rfl <| RL.nil <| CW.ret <| outP1 Tryd.results24 (congrArg B ?_) hH18.below
     exact (right_no2 h0 ‹k < _› (by rw [latOk, nt ‹(!nameR _) = true›]; rfl)).symm
    ·refine gT rfl (bR (c := false) h21) <| V (fA underlying72 1 rfl sizeOf70 rfl) <| gT rfl (bR (c := false) h21) <| V (run_ldSub (sub := shpL _) underlying70 rfl rfl rfl (hH18.blk (i := 0) rfl) rfl) <| gT rfl (bR (c := false) h21) <| RL.callP rfl hH18 (c_shape_Right _  _ ((hs.at (by omega) (by omega)).mono hH18.kw) (hT.hp hH18)) (run_call1 call42 rfl) <| fun w22 hH23 => gT rfl (bR (c := false) h21) <| V (run_not rfl) <| V (run_pickF (bR (c := false) h21) (v := B _) rfl) <| RL.nil <| CW.cond rfl (fun h26 => ?_) (fun h26 => ?_)
     ·refine SR <| va (v := B false) rfl <| RL.nil <| CW.ret <| outP1 Tryd.results24 (congrArg B ?_) hH23.below
      exact (right_no2 h0 ‹k < _› (by rw [latOk, nt ‹(!shR _) = true›, Bool.and_false])).symm
     ·refine CW.skip <| CW.region <| vm e3_9 <| V (fA underlying72 0 rfl sizeOf9 rfl) <| V (run_ld underlying9 rfl rfl (hH23.cell (i := 0) rfl (v := .string _) rfl)) <| RL.new rfl hH23 (f := fun b => (.slice (some ⟨b, 0, none⟩) 1 1)) (run_mkL underlying62 rfl rfl (sz := 1) (vs := [.string _]) rfl rfl (by decide) (by decide) rfl rfl) <| fun b29 w27 hH28 => ?_
      (try simp only [clX] at hH28)
      refine RL.app rfl hH28 (i := 2) rfl (hH28.slBlk (i := 0) (n := 1) (sz := 1) rfl rfl (by decide)) rfl rfl underlying62 rfl rfl (size := 1) (bytes := 16) rfl rfl rfl (by decide) (by simp [Value.oneCell']) (by omega) (by simp only [maxLen]; omega) <| fun v30 w31 hH32 => ?_
      simp only [z2] at hH32
      refine V (run_assign (by conv => lhs; whnf)) ?_
      refine RL.nil <| CW.region <| V (run_add e21_9 rfl (by omega)) <| mI rfl <| RL.nil <| ?_
      refine ⟨(k + 1, m ++ [(s.lats.getD k.toNat lat0).name], v30), ?_, fr9.u4.u4.u4.u4.u4.u1.u1, (Hp.conv (hH32.sub (sQ (sQ sR))) (by simp)), rfl, (congrArg I (by rfl)), ?_, ?_, ?_, ?_, ?_⟩
      ·((try dsimp only); omega)
      ·omega
      ·omega
      ·rw [lnames_next h0 ‹k < _›, ← hm]
      ·simp only [List.length_append, List.length_singleton]; omega
      ·exact fun j a b => if e : j = k then e ▸ (by rw [latOk, nf ‹(!nameR _) = false›, nf ‹(!shR _) = false›]; rfl) else hg j a (by omega)
   ·refine CW.exit (id := 0) rfl <| CW.seq <| SR <| V (fA underlying48 1 rfl sizeOf46 e1_9) <| V (run_ldV (hs.vars.sl.hp hH9) underlying46 rfl rfl (hH9.cell (i := 1) rfl rfl)) <| V (run_lenSl (hs.vars.sl.hp hH9) rfl underlying46 rfl) <| vm (v := I 0) rfl <| RL.nil <| CW.block <| CW.loop (G := Int × (List Tx) × Value) (fun ⟨j, m2, v3⟩ s' w' => (Fr (2 :: 3 :: (7 :: (rg 44 37 []))) _ s') ∧ (Hp w w' (.row v3 9 1 (m2.length) (txL m2) :: _)) ∧ (s' 3 = v3) ∧ (s' 44 = I j) ∧ (0 ≤ j) ∧ (j ≤ s.vars.length) ∧ (m2 = m ++ (s.vars.take j.toNat).map VarR.name) ∧ ((m2.length : Int) = k + j) ∧ (∀ i : Int, 0 ≤ i → i < j → varOk s.lats.length (s.vars.getD i.toNat var0) = true)) (fun ⟨j, m2, v3⟩ => (s.vars.length - j).toNat) ((0, m, (v3 : Value))) ⟨Fr.refl _ _, hH9, e3_9, rfl, (by omega), (by omega), (List.append_nil m).symm, (by omega), fun j a b => absurd b (by omega)⟩ <| ?_
    rintro ⟨j, m2, v3⟩ sg33 w33 ⟨fr33, hH33, e3_33, e44_33, j0, hj, hm2, hml2, hv⟩
    have e1_33 := (fr33 1 rfl).trans e1_9
    have e42_33 := (fr33 42 rfl).trans (by conv => lhs; whnf)
    have e43_33 := fr33.ii 43 rfl rfl
    refine SR <| V (run_lss e44_33 e43_33) <| RL.nil <| CW.seq <| CW.condP rfl (fun h35 => ?_) (fun h35 => ?_)
    ·refine CW.skip <| CW.seq <| CW.block <| SR <| V (run_indexAddrS (hs.vars.sl.hp hH33) underlying46 sizeOf74 e42_33 e44_33 (by omega)) <| V (run_ldE (dv := var0) varL_len (hs.vars.sl.hp hH33) underlying74 rfl rfl rfl (by omega)) <| RL.new rfl hH33 (f := fun b => (.pointer (some ⟨b, 0, none⟩))) (run_alloc Tryd.zeroValue74) <| fun b38 w36 hH37 => RL.set hH37 (i := 0) rfl (run_stW (c' := (varL _).toArray) rfl rfl rfl (by simp [varL, Value.oneCell']) (hH37.blk (i := 0) rfl) rfl) <| fun w39 hH40 => ?_
     simp only [z2] at hH40
     refine RL.nil <| CW.seq <| SR <| V (fA underlying74 0 rfl sizeOf9 rfl) <| V (run_ld underlying9 rfl rfl (hH40.cell (i := 0) rfl (v := .string _) rfl)) <| RL.callP rfl hH40 (c_name_Right _  _) (run_call1 call41 rfl) <| fun w41 hH42 => V (run_not rfl) <| mB rfl <| RL.split (dj := 52) rfl (fun h45 => ?_) (fun h45 => ?_)
     ·refine gF rfl (bR (c := true) h45) <| gF rfl (bR (c := true) h45) <| gF rfl (bR (c := true) h45) <| gF rfl (bR (c := true) h45) <| RL.gU rfl rfl rfl <| RL.gU rfl rfl rfl <| RL.gU rfl rfl rfl <| gF rfl (bR (c := true) h45) <| V (run_pickT (bR (c := true) h45) (v := B true) rfl) <| mB rfl <| gF rfl rfl <| gF rfl rfl <| gF rfl rfl <| V (run_pickT rfl (v := B true) rfl) <| mB rfl <| gF rfl rfl <| gF rfl rfl <| gF rfl rfl <| gF rfl rfl <| gF rfl rfl <| gF rfl rfl <| V (run_pickT rfl (v := B true) rfl) <| RL.nil <| CW.condT rfl <| SR <| va (v := B false) rfl <| RL.nil <| CW.ret <| outP1 Tryd.results24 (congrArg B ?_) hH42.below
      exact (right_no3 j0 ‹j < _› (by rw [varOk, nt ‹(!nameR _) = true›]; rfl)).symm
     ·refine gT rfl (bR (c := false) h45) <| V (fA underlying74 1 rfl sizeOf3 rfl) <| gT rfl (bR (c := false) h45) <| V (run_ld underlying3 rfl rfl (hH42.cell (i := 0) rfl (v := I _) rfl)) <| gT rfl (bR (c := false) h45) <| V (run_neq rfl rfl) <| gT rfl (bR (c := false) h45) <| mB rfl <| RL.splitP (dj := 56) rfl (fun h47 => ?_) (fun h47 => ?_)
      ·refine gT rfl (bT h47) <| V (fA underlying74 1 rfl sizeOf3 rfl) <| gT rfl (bT h47) <| V (run_ld underlying3 rfl rfl (hH42.cell (i := 0) rfl (v := I _) rfl)) <| gT rfl (bT h47) <| V (run_neq rfl rfl) <| gT rfl (bR (c := false) h45) <| V (run_pickT (bT h47) (v := B _) rfl) <| V (run_pickF (bR (c := false) h45) (v := B _) rfl) <| mB rfl <| RL.splitP (dj := 62) rfl (fun h49 => ?_) (fun h49 => ?_)
       ·refine gF rfl (bT h49) <| gF rfl (bT h49) <| gF rfl (bT h49) <| V (run_pickT (bT h49) (v := B true) rfl) <| mB rfl <| gF rfl rfl <| gF rfl rfl <| gF rfl rfl <| gF rfl rfl <| gF rfl rfl <| gF rfl rfl <| V (run_pickT rfl (v := B true) rfl) <| RL.nil <| CW.condT rfl <| SR <| va (v := B false) rfl <| RL.nil <| CW.ret <| outP1 Tryd.results24 (congrArg B ?_) hH42.below
        exact (right_no3 j0 ‹j < _› (by rw [varOk, decide_eq_false (by omega), Bool.and_false])).symm
       ·refine gT rfl (bF h49) <| V (fA underlying74 2 rfl sizeOf3 rfl) <| gT rfl (bF h49) <| V (run_ld underlying3 rfl rfl (hH42.cell (i := 0) rfl (v := I _) rfl)) <| gT rfl (bF h49) <| V (run_lss rfl rfl) <| V (run_pickF (bF h49) (v := B _) rfl) <| mB rfl <| RL.splitP (dj := 67) rfl (fun h51 => ?_) (fun h51 => ?_)
        ·refine gF rfl (bT h51) <| gF rfl (bT h51) <| gF rfl (bT h51) <| gF rfl (bT h51) <| gF rfl (bT h51) <| gF rfl (bT h51) <| V (run_pickT (bT h51) (v := B true) rfl) <| RL.nil <| CW.condT rfl <| SR <| va (v := B false) rfl <| RL.nil <| CW.ret <| outP1 Tryd.results24 (congrArg B ?_) hH42.below
         exact (right_no3 j0 ‹j < _› (by rw [varOk, decide_eq_false (by omega), Bool.and_false])).symm
        ·refine gT rfl (bF h51) <| V (fA underlying74 2 rfl sizeOf3 rfl) <| gT rfl (bF h51) <| V (run_ld underlying3 rfl rfl (hH42.cell (i := 0) rfl (v := I _) rfl)) <| gT rfl (bF h51) <| V (fA underlying48 0 rfl sizeOf45 e1_33) <| gT rfl (bF h51) <| V (run_ldV (hs.lats.sl.hp hH42) underlying45 rfl rfl (hH42.cell (i := 2) rfl rfl)) <| gT rfl (bF h51) <| V (run_lenSl (hs.lats.sl.hp hH42) rfl underlying45 rfl) <| gT rfl (bF h51) <| V (run_geq rfl rfl) <| V (run_pickF (bF h51) (v := B _) rfl) <| RL.nil <| CW.condP rfl (fun h53 => ?_) (fun h53 => ?_)
         ·refine SR <| va (v := B false) rfl <| RL.nil <| CW.ret <| outP1 Tryd.results24 (congrArg B ?_) hH42.below
          exact (right_no3 j0 ‹j < _› (by rw [varOk, decide_eq_false (by omega), Bool.and_false])).symm
         ·refine CW.skip <| CW.region <| vm e3_33 <| V (fA underlying74 0 rfl sizeOf9 rfl) <| V (run_ld underlying9 rfl rfl (hH42.cell (i := 0) rfl (v := .string _) rfl)) <| RL.new rfl hH42 (f := fun b => (.slice (some ⟨b, 0, none⟩) 1 1)) (run_mkL underlying62 rfl rfl (sz := 1) (vs := [.string _]) rfl rfl (by decide) (by decide) rfl rfl) <| fun b56 w54 hH55 => ?_
          (try simp only [clX] at hH55)
          refine RL.app rfl hH55 (i := 2) rfl (hH55.slBlk (i := 0) (n := 1) (sz := 1) rfl rfl (by decide)) rfl rfl underlying62 rfl rfl (size := 1) (bytes := 16) rfl rfl rfl (by decide) (by simp [Value.oneCell']) (by omega) (by simp only [maxLen]; omega) <| fun v57 w58 hH59 => ?_
          simp only [z2] at hH59
          refine V (run_assign (by conv => lhs; whnf)) ?_
          refine RL.nil <| CW.region <| V (run_add e44_33 rfl (by omega)) <| mI rfl <| RL.nil <| ?_
          refine ⟨(j + 1, m2 ++ [(s.vars.getD j.toNat var0).name], v57), ?_, fr33.u4.u4.u4.u4.u4.u4.u4.u4.u4.u1.u1.u1, (Hp.conv (hH59.sub (sQ (sQ sR))) (by simp)), rfl, (congrArg I (by rfl)), ?_, ?_, ?_, ?_, ?_⟩
          ·((try dsimp only); omega)
          ·omega
          ·omega
          ·rw [vnames_next j0 ‹j < _›, hm2, List.append_assoc]
          ·simp only [List.length_append, List.length_singleton]; omega
          ·exact fun i a b => if e : i = j then e ▸ (by rw [varOk, nf ‹(!nameR _) = false›, Bool.true_and, decide_eq_true_eq]; omega) else hv i a (by omega)
      ·refine gF rfl (bF h47) <| gF rfl (bF h47) <| gF rfl (bF h47) <| gT rfl (bR (c := false) h45) <| V (run_pickF (bF h47) (v := B false) rfl) <| V (run_pickF (bR (c := false) h45) (v := B _) rfl) <| mB rfl <| gT rfl rfl <| V (fA underlying74 2 rfl sizeOf3 rfl) <| gT rfl rfl <| V (run_ld underlying3 rfl rfl (hH42.cell (i := 0) rfl (v := I _) rfl)) <| gT rfl rfl <| V (run_lss rfl rfl) <| V (run_pickF rfl (v := B _) rfl) <| mB rfl <| RL.splitP (dj := 67) rfl (fun h61 => ?_) (fun h61 => ?_)
       ·refine gF rfl (bT h61) <| gF rfl (bT h61) <| gF rfl (bT h61) <| gF rfl (bT h61) <| gF rfl (bT h61) <| gF rfl (bT h61) <| V (run_pickT (bT h61) (v := B true) rfl) <| RL.nil <| CW.condT rfl <| SR <| va (v := B false) rfl <| RL.nil <| CW.ret <| outP1 Tryd.results24 (congrArg B ?_) hH42.below
        exact (right_no3 j0 ‹j < _› (by rw [varOk, decide_eq_false (by omega), Bool.and_false])).symm
       ·refine gT rfl (bF h61) <| V (fA underlying74 2 rfl sizeOf3 rfl) <| gT rfl (bF h61) <| V (run_ld underlying3 rfl rfl (hH42.cell (i := 0) rfl (v := I _) rfl)) <| gT rfl (bF h61) <| V (fA underlying48 0 rfl sizeOf45 e1_33) <| gT rfl (bF h61) <| V (run_ldV (hs.lats.sl.hp hH42) underlying45 rfl rfl (hH42.cell (i := 2) rfl rfl)) <| gT rfl (bF h61) <| V (run_lenSl (hs.lats.sl.hp hH42) rfl underlying45 rfl) <| gT rfl (bF h61) <| V (run_geq rfl rfl) <| V (run_pickF (bF h61) (v := B _) rfl) <| RL.nil <| CW.condP rfl (fun h63 => ?_) (fun h63 => ?_)
        ·refine SR <| va (v := B false) rfl <| RL.nil <| CW.ret <| outP1 Tryd.results24 (congrArg B ?_) hH42.below
         exact (right_no3 j0 ‹j < _› (by rw [varOk, decide_eq_false (by omega), Bool.and_false])).symm
        ·refine CW.skip <| CW.region <| vm e3_33 <| V (fA underlying74 0 rfl sizeOf9 rfl) <| V (run_ld underlying9 rfl rfl (hH42.cell (i := 0) rfl (v := .string _) rfl)) <| RL.new rfl hH42 (f := fun b => (.slice (some ⟨b, 0, none⟩) 1 1)) (run_mkL underlying62 rfl rfl (sz := 1) (vs := [.string _]) rfl rfl (by decide) (by decide) rfl rfl) <| fun b66 w64 hH65 => ?_
         (try simp only [clX] at hH65)
         refine RL.app rfl hH65 (i := 2) rfl (hH65.slBlk (i := 0) (n := 1) (sz := 1) rfl rfl (by decide)) rfl rfl underlying62 rfl rfl (size := 1) (bytes := 16) rfl rfl rfl (by decide) (by simp [Value.oneCell']) (by omega) (by simp only [maxLen]; omega) <| fun v67 w68 hH69 => ?_
         simp only [z2] at hH69
         refine V (run_assign (by conv => lhs; whnf)) ?_
         refine RL.nil <| CW.region <| V (run_add e44_33 rfl (by omega)) <| mI rfl <| RL.nil <| ?_
         refine ⟨(j + 1, m2 ++ [(s.vars.getD j.toNat var0).name], v67), ?_, fr33.u4.u4.u4.u4.u4.u4.u4.u4.u4.u1.u1.u1, (Hp.conv (hH69.sub (sQ (sQ sR))) (by simp)), rfl, (congrArg I (by rfl)), ?_, ?_, ?_, ?_, ?_⟩
         ·((try dsimp only); omega)
         ·omega
         ·omega
         ·rw [vnames_next j0 ‹j < _›, hm2, List.append_assoc]
         ·simp only [List.length_append, List.length_singleton]; omega
         ·exact fun i a b => if e : i = j then e ▸ (by rw [varOk, nf ‹(!nameR _) = false›, Bool.true_and, decide_eq_true_eq]; omega) else hv i a (by omega)
    ·refine CW.exit (id := 2) rfl <| SR <| vm e3_33 <| RL.callP rfl hH33 (c_name_Twice _ _  _ (hH33.sl (i := 0) rfl)) (run_call1 call43 rfl) <| fun w70 hH71 => V (run_lss rfl rfl) <| aB rfl <| RL.nil <| CW.ret <| outP1 Tryd.results24 (congrArg B ?_) hH71.below
     (have hnm : m2 = namesS s := (by rw [hm2, hm, List.take_of_length_le (by omega), List.take_of_length_le (by omega)]; rfl); rw [hnm]; exact (right_yes hsz ‹¬ k < _› hg ‹¬ j < _› hv).symm)
theorem c_code_fold (s : Shp) (op : Int) (v : Value) (l : List El) (hne : 1 ≤ l.length) (w : World) (hs : Sl w v 8 l.length (l.flatMap elL)) (hsh : ShpV (Kw w) s) (hT : Tab w) : Calls Tryd.prog 52 #[.agg (shpC s), I op, v] w (Pure (.agg (elC (foldE (opE s.sh op) l))) w) := by
 have hm := hs.small
 unfold maxLen at hm
 refine enter Tryd.func52 rfl Tryd.ntmps52 rfl <| have hH := Hp.start w; SR <| RL.new rfl hH (f := fun b => (.pointer (some ⟨b, 0, none⟩))) (run_box (v := .agg _) rfl) <| fun b3 w1 hH2 => RL.new rfl hH2 (f := fun b => (.pointer (some ⟨b, 0, none⟩))) (run_alloc zero_el) <| fun b6 w4 hH5 => RL.nil <| SR <| ?_
 refine V (run_move (by conv => lhs; whnf)) ?_
 refine V (run_move (by conv => lhs; whnf)) ?_
 refine V (run_lenSl (hs.hp hH5) rfl underlying25 rfl) <| V (run_sub rfl rfl (by omega)) <| V (run_indexAddrS (hs.hp hH5) underlying25 sizeOf33 rfl rfl (by omega)) <| V (run_ldElS (hs.hp hH5) underlying33 rfl rfl rfl (by omega)) <| RL.new rfl hH5 (f := fun b => (.pointer (some ⟨b, 0, none⟩))) (run_alloc zero_el) <| fun b9 w7 hH8 => RL.set hH8 (i := 0) rfl (run_stEl rfl rfl rfl (hH8.blk (i := 0) rfl)) <| fun w10 hH11 => ?_
 simp only [z2] at hH11
 refine RL.nil <| CW.seq <| SR <| ?_
 refine V (run_move (by conv => lhs; whnf)) ?_
 refine V (run_lenSl (hs.hp hH11) rfl underlying25 rfl) <| V (run_sub rfl rfl (by omega)) <| aI rfl <| RL.nil <| CW.block <| CW.loop (G := Int × El) (fun ⟨k, e1⟩ s' w' => (Fr (8 :: (rg 18 19 [])) _ s') ∧ (Hp w w' (.blk b9 (.cells (elC e1) 33 (0, 0)) :: _)) ∧ (s' 8 = I k) ∧ (-1 ≤ k) ∧ (k ≤ (l.length : Int) - 2) ∧ (e1 = foldE (opE s.sh op) (l.drop (k + 1).toNat))) (fun ⟨k, e1⟩ => (k + 1).toNat) (((l.length : Int) - 2, (l.getD ((l.length : Int) - 1).toNat el0))) ⟨Fr.refl _ _, hH11, rfl, (by omega), (by omega), (by rw [show ((l.length : Int) - 2 + 1).toNat = l.length - 1 by omega, foldE_last (by intro h; rw [h] at hne; simp at hne)]; congr 1; omega)⟩ <| ?_
 rintro ⟨k, e1⟩ sg12 w12 ⟨fr12, hH12, e8_12, h0, hk, he⟩
 have e1_12 := fr12.ii 1 rfl rfl
 have e2_12 := (fr12 2 rfl).trans (by conv => lhs; whnf)
 have e3_12 := fr12.pp 3 rfl rfl
 have e6_12 := fr12.pp 6 rfl rfl
 have e7_12 := fr12.pp 7 rfl rfl
 refine CW.seq <| SR <| vm e8_12 <| V (run_geq rfl rfl) <| RL.nil <| CW.condP rfl (fun h14 => ?_) (fun h14 => ?_)
 ·refine CW.skip <| CW.seq <| CW.block <| CW.seq <| SR <| vm e1_12 <| V (run_eql rfl rfl) <| RL.nil <| CW.condP rfl (fun h16 => ?_) (fun h16 => ?_)
  ·refine CW.seq <| CW.regionS (by kernel_rfl) hH12 (sQ sR) <| fun w17 hH18 => have zh18 := hH18.sub (sQ sR); AT 0 rfl zh18 (fun w hS => run_ldA (cs := [B _, _]) underlying70 rfl rfl e3_12 (rangeAt_cells (hS.blk (i := 1) rfl))) <| AQ 1 rfl zh18 (run_move e2_12) <| AQ 2 rfl zh18 (run_move e8_12) <| AT 3 rfl zh18 (fun w hS => run_indexAddrS (hs.hp hS) underlying25 sizeOf33 rfl rfl (by omega)) <| AT 4 rfl zh18 (fun w hS => run_ldElS (hs.hp hS) underlying33 rfl rfl rfl (by omega)) <| A1 5 <| AO.read rfl gnone rfl hH18 (sQ sR) (run_ldEl underlying33 rfl rfl e7_12 (hH18.blk (i := 0) rfl)) <| A1 6 <| AO.callP rfl gnone rfl hH18 (sQ sR) (c_shape_Join _ _ _  _ (hsh.mono hH18.kw) (hT.hp hH18)) (run_call3 call63 rfl rfl rfl) <| fun w21 hH22 => A1 7 <| AO.set rfl gnone hH22 (j := 0) rfl (sQ sR) (run_stEl rfl e7_12 rfl (hH22.blk (i := 0) rfl)) <| fun w25 hH26 => ?_
   simp only [z2] at hH26
   refine AD <| CW.exit (id := 1) rfl <| CW.region <| vm e8_12 <| V (run_sub rfl rfl (by omega)) <| aI rfl <| RL.nil <| ?_
   refine ⟨(k - 1, _), ?_, fr12.u4.u4.u4.u1.u1, hH26, (congrArg I (by rfl)), ?_, ?_, ?_⟩
   ·((try dsimp only); omega)
   ·omega
   ·omega
   ·(rw [show (k - 1 + 1).toNat = k.toNat by omega, foldE_k (by omega) (by omega), ← he]; exact opE_3 ‹op = 3›)
  ·refine CW.skip <| CW.regionS (by kernel_rfl) hH12 (sQ sR) <| fun w27 hH28 => have zh28 := hH28.sub (sQ sR); AQ 0 rfl zh28 (run_move e2_12) <| AQ 1 rfl zh28 (run_move e8_12) <| AT 2 rfl zh28 (fun w hS => run_indexAddrS (hs.hp hS) underlying25 sizeOf33 rfl rfl (by omega)) <| AT 3 rfl zh28 (fun w hS => run_ldElS (hs.hp hS) underlying33 rfl rfl rfl (by omega)) <| A1 4 <| AO.read rfl gnone rfl hH28 (sQ sR) (run_ldEl underlying33 rfl rfl e7_12 (hH28.blk (i := 0) rfl)) <| A1 5 <| AO.callP rfl gnone rfl hH28 (sQ sR) (c_shape_Meet _ _  _) (run_call2 call29 rfl rfl) <| fun w31 hH32 => A1 6 <| AO.set rfl gnone hH32 (j := 0) rfl (sQ sR) (run_stEl rfl e7_12 rfl (hH32.blk (i := 0) rfl)) <| fun w35 hH36 => ?_
   simp only [z2] at hH36
   refine AD <| CW.region <| vm e8_12 <| V (run_sub rfl rfl (by omega)) <| aI rfl <| RL.nil <| ?_
   refine ⟨(k - 1, _), ?_, fr12.u4.u4.u4.u1, hH36, (congrArg I (by rfl)), ?_, ?_, ?_⟩
   ·((try dsimp only); omega)
   ·omega
   ·omega
   ·(rw [show (k - 1 + 1).toNat = k.toNat by omega, foldE_k (by omega) (by omega), ← he]; exact opE_4 ‹¬ op = 3›)
 ·refine CW.exit (id := 0) rfl <| SR <| V (run_ldEl underlying33 rfl rfl e7_12 (hH12.blk (i := 0) rfl)) <| RL.set hH12 (i := 1) rfl (run_stEl rfl e6_12 rfl (hH12.blk (i := 1) rfl)) <| fun w37 hH38 => ?_
  simp only [z2] at hH38
  refine RL.nil <| CW.ret <| outCg Tryd.results52 e6_12 hH38 (i := 1) rfl underlying33 rfl (by rw [elC_size]; rfl) ⟨?_, hH38.below⟩
  (exact congrArg Value.agg (elC_congr (by rw [he, show (k + 1).toNat = 0 by omega]; exact fun _ _ => rfl)))
set_option maxHeartbeats 1000000 in
theorem c_code_Eval (s : Shp) (v : Value) (l : List InsR) (u : Value) (vs : List El) (hl : l.length ≤ 1000) (w : World) (hs : Sl w v 10 l.length (l.flatMap insL)) (ht : Sl w u 8 vs.length (vs.flatMap elL)) (hsh : ShpV (Kw w) s) (hT : Tab w) : Calls Tryd.prog 33 #[.agg (shpC s), v, u] w (Pure (.tuple #[.agg (elC (evalF s.sh l vs).1), B (evalF s.sh l vs).2]) w) := by
 have hm := hs.small
 unfold maxLen at hm
 have hm2 := ht.small
 unfold maxLen at hm2
 refine enter Tryd.func33 rfl Tryd.ntmps33 rfl <| have hH := Hp.start w; SR <| RL.new rfl hH (f := fun b => (.pointer (some ⟨b, 0, none⟩))) (run_box (v := .agg _) rfl) <| fun b3 w1 hH2 => RL.new rfl hH2 (f := fun b => (.pointer (some ⟨b, 0, none⟩))) (run_alloc zero_el) <| fun b6 w4 hH5 => va (v := B false) rfl <| RL.nil <| CW.seq <| SR <| ?_
 refine V (run_move (by conv => lhs; whnf)) ?_
 refine RL.callP rfl hH5 (c_code_Right _ _  _ (hs.hp hH5)) (run_call1 call51 rfl) <| fun w7 hH8 => V (run_not rfl) <| RL.nil <| CW.cond rfl (fun h11 => ?_) (fun h11 => ?_)
 ·refine SR <| V (run_bld (vs := []) rfl (built_el0)) <| RL.set hH8 (i := 0) rfl (run_stEl rfl rfl rfl (hH8.blk (i := 0) rfl)) <| fun w12 hH13 => ?_
  simp only [z2] at hH13
  refine va (v := B false) rfl <| RL.nil <| CW.ret <| outCT Tryd.results33 rfl rfl hH13 (i := 0) rfl underlying33 rfl (by rw [elC_size]; rfl) ⟨?_, hH13.below⟩
  (rw [ev_no (nt ‹(!rightC l) = true›)]; rfl)
 ·refine CW.skip <| SR <| va (v := .slice none 0 0) rfl <| have hH14 := hH8.nilRow 33 8; RL.nil <| CW.seq <| SR <| ?_
  refine V (run_move (by conv => lhs; whnf)) ?_
  refine V (run_lenSl (hs.hp hH14) rfl underlying30 rfl) <| vm (v := I 0) rfl <| RL.nil <| CW.block <| have hr : rightC l = true := nf ‹(!rightC l) = false›; CW.loop (G := Int × (List El) × Value) (fun ⟨k, st, v8⟩ s' w' => (Fr (7 :: 8 :: (10 :: 11 :: (rg 18 53 []))) _ s') ∧ (Hp w w' (.row v8 33 8 (st.length) (st.flatMap elL) :: _)) ∧ (s' 8 = v8) ∧ (s' 18 = I k) ∧ (0 ≤ k) ∧ (k ≤ l.length) ∧ (stackTo s.sh vs l k = some st) ∧ (deepTo l k = some (st.length : Int))) (fun ⟨k, st, v8⟩ => (l.length - k).toNat) ((0, [], (.slice none 0 0 : Value))) ⟨Fr.refl _ _, hH14, rfl, rfl, (by omega), (by omega), rfl, deep_zero l⟩ <| ?_
  rintro ⟨k, st, v8⟩ sg15 w15 ⟨fr15, hH15, e8_15, e18_15, h0, hk, hst, hdp⟩
  have e2_15 := (fr15 2 rfl).trans (by conv => lhs; whnf)
  have e3_15 := fr15.pp 3 rfl rfl
  have e6_15 := fr15.pp 6 rfl rfl
  have e16_15 := (fr15 16 rfl).trans (by conv => lhs; whnf)
  have e17_15 := fr15.ii 17 rfl rfl
  have hdk := deep_bd h0 hk hdp
  refine SR <| V (run_lss e18_15 e17_15) <| RL.nil <| CW.seq <| CW.condP rfl (fun h17 => ?_) (fun h17 => ?_)
  ·refine CW.skip <| CW.seq <| CW.block <| SR <| V (run_indexAddrS (hs.hp hH15) underlying30 sizeOf109 e16_15 e18_15 (by omega)) <| V (run_ldE (dv := ins0) insL_len (hs.hp hH15) underlying109 rfl rfl rfl (by omega)) <| RL.new rfl hH15 (f := fun b => (.pointer (some ⟨b, 0, none⟩))) (run_alloc zero_ins) <| fun b20 w18 hH19 => RL.set hH19 (i := 0) rfl (run_stW (c' := (insL _).toArray) rfl rfl rfl (insL_one _) (hH19.blk (i := 0) rfl) rfl) <| fun w21 hH22 => ?_
   simp only [z2] at hH22
   refine RL.nil <| SR <| V (fA underlying109 0 rfl sizeOf3 rfl) <| V (run_ld underlying3 rfl rfl (hH22.cell (i := 0) rfl (v := I _) rfl)) <| RL.nil <| CW.block <| SR <| V (run_eql rfl rfl) <| aB rfl <| RL.nil <| CW.condP rfl (fun h24 => ?_) (fun h24 => ?_)
   ·refine CW.seq <| SR <| V (fA underlying109 1 rfl sizeOf3 rfl) <| V (run_ld underlying3 rfl rfl (hH22.cell (i := 0) rfl (v := I _) rfl)) <| V (run_lss rfl rfl) <| mB rfl <| RL.splitP (dj := 47) rfl (fun h26 => ?_) (fun h26 => ?_)
    ·refine gF rfl (bT h26) <| gF rfl (bT h26) <| gF rfl (bT h26) <| gF rfl (bT h26) <| gF rfl (bT h26) <| V (run_pickT (bT h26) (v := B true) rfl) <| RL.nil <| CW.condT rfl <| SR <| V (run_bld (vs := []) rfl (built_el0)) <| RL.set hH22 (i := 2) rfl (run_stEl rfl e6_15 rfl (hH22.blk (i := 2) rfl)) <| fun w27 hH28 => ?_
     simp only [z2] at hH28
     refine va (v := B false) rfl <| RL.nil <| CW.ret <| outCT Tryd.results33 e6_15 rfl hH28 (i := 2) rfl underlying33 rfl (by rw [elC_size]; rfl) ⟨?_, hH28.below⟩
     (rw [ev_dead h0 ‹k < _› hst ‹(List.getD l k.toNat ins0).op = 1› (by omega)]; rfl)
    ·refine gT rfl (bF h26) <| V (fA underlying109 1 rfl sizeOf3 rfl) <| gT rfl (bF h26) <| V (run_ld underlying3 rfl rfl (hH22.cell (i := 0) rfl (v := I _) rfl)) <| gT rfl (bF h26) <| vm e2_15 <| gT rfl (bF h26) <| V (run_lenSl (ht.hp hH22) rfl underlying25 rfl) <| gT rfl (bF h26) <| V (run_geq rfl rfl) <| V (run_pickF (bF h26) (v := B _) rfl) <| RL.nil <| CW.condP rfl (fun h30 => ?_) (fun h30 => ?_)
     ·refine SR <| V (run_bld (vs := []) rfl (built_el0)) <| RL.set hH22 (i := 2) rfl (run_stEl rfl e6_15 rfl (hH22.blk (i := 2) rfl)) <| fun w31 hH32 => ?_
      simp only [z2] at hH32
      refine va (v := B false) rfl <| RL.nil <| CW.ret <| outCT Tryd.results33 e6_15 rfl hH32 (i := 2) rfl underlying33 rfl (by rw [elC_size]; rfl) ⟨?_, hH32.below⟩
      (rw [ev_dead h0 ‹k < _› hst ‹(List.getD l k.toNat ins0).op = 1› (by omega)]; rfl)
     ·refine CW.skip <| CW.region <| vm e8_15 <| vm e2_15 <| V (fA underlying109 1 rfl sizeOf3 rfl) <| V (run_ld underlying3 rfl rfl (hH22.cell (i := 0) rfl (v := I _) rfl)) <| V (run_indexAddrS (ht.hp hH22) underlying25 sizeOf33 rfl rfl (by omega)) <| V (run_ldElS (ht.hp hH22) underlying33 rfl rfl rfl (by omega)) <| RL.new rfl hH22 (f := fun b => (.slice (some ⟨b, 0, none⟩) 1 1)) (run_mkEl1 underlying25 rfl rfl rfl rfl) <| fun b35 w33 hH34 => ?_
      (try simp only [clX] at hH34)
      refine RL.app rfl hH34 (i := 2) rfl (Hp.slFlat elL_len hH34 (i := 0) (l := [_]) rfl (by simp [maxLen])) rfl rfl underlying25 rfl rfl (size := 8) (bytes := 64) rfl rfl rfl (by decide) (els_one _) (by show (st.length + 1) * _ ≤ _; omega) (by show st.length + 1 ≤ _; simp only [maxLen]; omega) <| fun v36 w37 hH38 => ?_
      simp only [z2] at hH38
      refine V (run_assign (by conv => lhs; whnf)) ?_
      refine RL.nil <| CW.region <| V (run_add e18_15 rfl (by omega)) <| mI rfl <| RL.nil <| ?_
      refine ⟨(k + 1, st ++ [vs.getD (l.getD k.toNat ins0).n.toNat el0], v36), ?_, fr15.u4.u4.u4.u4.u4.u4.u4.u1, (Hp.conv (hH38.sub (sQ (sQ sR))) (by simp; done)), rfl, (congrArg I (by rfl)), ?_, ?_, ?_, ?_⟩
      ·((try dsimp only); omega)
      ·omega
      ·omega
      ·exact ev_1 h0 ‹k < _› hst ‹(List.getD l k.toNat ins0).op = 1› ⟨by omega, by omega⟩
      ·(rw [deep_next h0 ‹k < _›, hdp, st_push (.inl ‹(List.getD l k.toNat ins0).op = 1›)]; simp; done)
   ·refine SR <| V (run_eql rfl rfl) <| aB rfl <| RL.nil <| CW.condP rfl (fun h40 => ?_) (fun h40 => ?_)
    ·refine CW.region <| vm e8_15 <| V (fA underlying109 2 rfl sizeOf33 rfl) <| V (run_ldElR underlying33 rfl rfl rfl (hH22.blk (i := 0) rfl) (ins_elB _)) <| RL.new rfl hH22 (f := fun b => (.slice (some ⟨b, 0, none⟩) 1 1)) (run_mkEl1 underlying25 rfl rfl rfl rfl) <| fun b43 w41 hH42 => ?_
     (try simp only [clX] at hH42)
     refine RL.app rfl hH42 (i := 2) rfl (Hp.slFlat elL_len hH42 (i := 0) (l := [_]) rfl (by simp [maxLen])) rfl rfl underlying25 rfl rfl (size := 8) (bytes := 64) rfl rfl rfl (by decide) (els_one _) (by show (st.length + 1) * _ ≤ _; omega) (by show st.length + 1 ≤ _; simp only [maxLen]; omega) <| fun v44 w45 hH46 => ?_
     simp only [z2] at hH46
     refine V (run_assign (by conv => lhs; whnf)) ?_
     refine RL.nil <| CW.region <| V (run_add e18_15 rfl (by omega)) <| mI rfl <| RL.nil <| ?_
     refine ⟨(k + 1, st ++ [(l.getD k.toNat ins0).c], v44), ?_, fr15.u4.u4.u4.u4.u1.u1, (Hp.conv (hH46.sub (sQ (sQ sR))) (by simp; done)), rfl, (congrArg I (by rfl)), ?_, ?_, ?_, ?_⟩
     ·((try dsimp only); omega)
     ·omega
     ·omega
     ·exact ev_2 h0 ‹k < _› hst ‹(List.getD l k.toNat ins0).op = 2›
     ·(rw [deep_next h0 ‹k < _›, hdp, st_push (.inr ‹(List.getD l k.toNat ins0).op = 2›)]; simp; done)
    ·refine SR <| vm e8_15 <| V (run_lenSl (hH22.sl (i := 1) rfl) rfl underlying25 rfl) <| V (fA underlying109 1 rfl sizeOf3 rfl) <| V (run_ld underlying3 rfl rfl (hH22.cell (i := 0) rfl (v := I _) rfl)) <| V (run_sub rfl rfl (by have hq := (deep_pop hr h0 ‹k < _› hdp ‹¬ (List.getD l k.toNat ins0).op = 1› ‹¬ (List.getD l k.toNat ins0).op = 2›); omega)) <| aI rfl <| RL.nil <| have hpo := (deep_pop hr h0 ‹k < _› hdp ‹¬ (List.getD l k.toNat ins0).op = 1› ‹¬ (List.getD l k.toNat ins0).op = 2›); CW.regionS (by kernel_rfl) hH22 (sP (sQ sR)) <| fun w47 hH48 => have zh48 := hH48.sub (sP (sQ sR)); AQ 0 rfl zh48 (run_move e8_15) <| AQ 1 rfl zh48 (mV (I _) rfl) <| AQ 2 rfl zh48 (mV (I _) rfl) <| AT 4 rfl zh48 (fun w hS => run_ldA (cs := [B _, _]) underlying70 rfl rfl e3_15 (rangeAt_cells (hS.blk (i := 2) rfl))) <| AQ 5 rfl zh48 (fA underlying109 0 rfl sizeOf3 rfl) <| AT 6 rfl zh48 (fun w hS => run_ld underlying3 rfl rfl (hS.cell (i := 0) rfl (v := I _) rfl)) <| AQ 7 rfl zh48 (run_move e8_15) <| AQ 8 rfl zh48 (mV (I _) rfl) <| AN.two 3 9 (by kernel_rfl) ?_ ?_
     ·refine AO.read rfl gnone rfl hH48 (sP (sQ sR)) (run_cut3 (hH48.sl (i := 1) rfl) underlying25 sizeOf33 rfl rfl rfl (by omega)) <| A1 9 <| AO.read rfl gnone rfl hH48 (sP (sQ sR)) (run_from (hH48.sl (i := 1) rfl) underlying25 sizeOf33 rfl rfl (by omega)) <| A1 10 <| AO.callP rfl gnone rfl hH48 (sP (sQ sR)) (c_code_fold s (l.getD k.toNat ins0).op _ (st.drop ((st.length : Int) - (l.getD k.toNat ins0).n).toNat) (by rw [List.length_drop]; omega) _ (Sl.frE elL_len (hH48.sl (i := 1) rfl) _ (by omega)) (hsh.mono hH48.kw) (hT.hp hH48)) (run_call3 call52 rfl rfl rfl) <| fun w53 hH54 => A1 11 <| AO.new rfl gnone rfl hH54 (sP (sQ sR)) (f := fun b => .slice (some ⟨b, 0, none⟩) 1 1) (run_mkEl1 underlying25 rfl rfl rfl rfl) <| fun b57 w55 hH56 => ?_
      (try simp only [clX] at hH56)
      refine A1 12 <| AO.appG rfl gnone rfl hH56 (j := 2) rfl (q := (((st.length : Int) - (l.getD k.toNat ins0).n)).toNat) (by omega) (fun _ => (sQ (sP (sQ sR)))) (Hp.slFlat elL_len hH56 (i := 0) (l := [_]) rfl (by simp [maxLen])) rfl rfl underlying25 rfl rfl (size := 8) (bytes := 64) rfl rfl rfl (by simp) (by show (((st.length : Int) - (l.getD k.toNat ins0).n).toNat + 1) * _ ≤ _; omega) (by show ((st.length : Int) - (l.getD k.toNat ins0).n).toNat + 1 ≤ _; simp only [maxLen]; omega) <| fun v60 w61 hH62 => ?_
      simp only [z2] at hH62
      refine AQ 13 rfl (hH62.sub (sQ (sP (sQ sR)))) (run_assign (by conv => lhs; whnf)) ?_
      refine AD <| CW.region <| V (run_add e18_15 rfl (by omega)) <| mI rfl <| RL.nil <| ?_
      refine ⟨(k + 1, st.take ((st.length : Int) - (l.getD k.toNat ins0).n).toNat ++ [foldE (opE s.sh (l.getD k.toNat ins0).op) (st.drop ((st.length : Int) - (l.getD k.toNat ins0).n).toNat)], v60), ?_, fr15.u4.u4.u4.u4.u4.u4.u4.u4, (Hp.conv (hH62.sub (sQ (sQ sR))) (by rw [flat_take elL_len, List.length_append, List.length_take, Nat.min_eq_left (by omega), List.flatMap_append]; done)), rfl, (congrArg I (by rfl)), ?_, ?_, ?_, ?_⟩
      ·((try dsimp only); omega)
      ·omega
      ·omega
      ·exact ev_3i h0 ‹k < _› hst ‹¬ (List.getD l k.toNat ins0).op = 1› ‹¬ (List.getD l k.toNat ins0).op = 2› rfl (by have := (deep_pop hr h0 ‹k < _› hdp ‹¬ (List.getD l k.toNat ins0).op = 1› ‹¬ (List.getD l k.toNat ins0).op = 2›); omega)
      ·(have hq := (deep_pop hr h0 ‹k < _› hdp ‹¬ (List.getD l k.toNat ins0).op = 1› ‹¬ (List.getD l k.toNat ins0).op = 2›); rw [hq.2.2, List.length_append, List.length_take, List.length_singleton]; congr 1 <;> omega)
     ·refine AO.read rfl gnone rfl hH48 (sP (sQ sR)) (run_from (hH48.sl (i := 1) rfl) underlying25 sizeOf33 rfl rfl (by omega)) <| AN.two 3 10 (by kernel_rfl) ?_ ?_
      ·refine AO.read rfl gnone rfl hH48 (sP (sQ sR)) (run_cut3 (hH48.sl (i := 1) rfl) underlying25 sizeOf33 rfl rfl rfl (by omega)) <| A1 10 <| AO.callP rfl gnone rfl hH48 (sP (sQ sR)) (c_code_fold s (l.getD k.toNat ins0).op _ (st.drop ((st.length : Int) - (l.getD k.toNat ins0).n).toNat) (by rw [List.length_drop]; omega) _ (Sl.frE elL_len (hH48.sl (i := 1) rfl) _ (by omega)) (hsh.mono hH48.kw) (hT.hp hH48)) (run_call3 call52 rfl rfl rfl) <| fun w67 hH68 => A1 11 <| AO.new rfl gnone rfl hH68 (sP (sQ sR)) (f := fun b => .slice (some ⟨b, 0, none⟩) 1 1) (run_mkEl1 underlying25 rfl rfl rfl rfl) <| fun b71 w69 hH70 => ?_
       (try simp only [clX] at hH70)
       refine A1 12 <| AO.appG rfl gnone rfl hH70 (j := 2) rfl (q := (((st.length : Int) - (l.getD k.toNat ins0).n)).toNat) (by omega) (fun _ => (sQ (sP (sQ sR)))) (Hp.slFlat elL_len hH70 (i := 0) (l := [_]) rfl (by simp [maxLen])) rfl rfl underlying25 rfl rfl (size := 8) (bytes := 64) rfl rfl rfl (by simp) (by show (((st.length : Int) - (l.getD k.toNat ins0).n).toNat + 1) * _ ≤ _; omega) (by show ((st.length : Int) - (l.getD k.toNat ins0).n).toNat + 1 ≤ _; simp only [maxLen]; omega) <| fun v74 w75 hH76 => ?_
       simp only [z2] at hH76
       refine AQ 13 rfl (hH76.sub (sQ (sP (sQ sR)))) (run_assign (by conv => lhs; whnf)) ?_
       refine AD <| CW.region <| V (run_add e18_15 rfl (by omega)) <| mI rfl <| RL.nil <| ?_
       refine ⟨(k + 1, st.take ((st.length : Int) - (l.getD k.toNat ins0).n).toNat ++ [foldE (opE s.sh (l.getD k.toNat ins0).op) (st.drop ((st.length : Int) - (l.getD k.toNat ins0).n).toNat)], v74), ?_, fr15.u4.u4.u4.u4.u4.u4.u4.u4, (Hp.conv (hH76.sub (sQ (sQ sR))) (by rw [flat_take elL_len, List.length_append, List.length_take, Nat.min_eq_left (by omega), List.flatMap_append]; done)), rfl, (congrArg I (by rfl)), ?_, ?_, ?_, ?_⟩
       ·((try dsimp only); omega)
       ·omega
       ·omega
       ·exact ev_3i h0 ‹k < _› hst ‹¬ (List.getD l k.toNat ins0).op = 1› ‹¬ (List.getD l k.toNat ins0).op = 2› rfl (by have := (deep_pop hr h0 ‹k < _› hdp ‹¬ (List.getD l k.toNat ins0).op = 1› ‹¬ (List.getD l k.toNat ins0).op = 2›); omega)
       ·(have hq := (deep_pop hr h0 ‹k < _› hdp ‹¬ (List.getD l k.toNat ins0).op = 1› ‹¬ (List.getD l k.toNat ins0).op = 2›); rw [hq.2.2, List.length_append, List.length_take, List.length_singleton]; congr 1 <;> omega)
      ·refine AO.callP rfl gnone rfl hH48 (sP (sQ sR)) (c_code_fold s (l.getD k.toNat ins0).op _ (st.drop ((st.length : Int) - (l.getD k.toNat ins0).n).toNat) (by rw [List.length_drop]; omega) _ (Sl.frE elL_len (hH48.sl (i := 1) rfl) _ (by omega)) (hsh.mono hH48.kw) (hT.hp hH48)) (run_call3 call52 rfl rfl rfl) <| fun w77 hH78 => AN.two 3 11 (by kernel_rfl) ?_ ?_
       ·refine AO.read rfl gnone rfl hH78 (sP (sQ sR)) (run_cut3 (hH78.sl (i := 1) rfl) underlying25 sizeOf33 rfl rfl rfl (by omega)) <| A1 11 <| AO.new rfl gnone rfl hH78 (sP (sQ sR)) (f := fun b => .slice (some ⟨b, 0, none⟩) 1 1) (run_mkEl1 underlying25 rfl rfl rfl rfl) <| fun b83 w81 hH82 => ?_
        (try simp only [clX] at hH82)
        refine A1 12 <| AO.appG rfl gnone rfl hH82 (j := 2) rfl (q := (((st.length : Int) - (l.getD k.toNat ins0).n)).toNat) (by omega) (fun _ => (sQ (sP (sQ sR)))) (Hp.slFlat elL_len hH82 (i := 0) (l := [_]) rfl (by simp [maxLen])) rfl rfl underlying25 rfl rfl (size := 8) (bytes := 64) rfl rfl rfl (by simp) (by show (((st.length : Int) - (l.getD k.toNat ins0).n).toNat + 1) * _ ≤ _; omega) (by show ((st.length : Int) - (l.getD k.toNat ins0).n).toNat + 1 ≤ _; simp only [maxLen]; omega) <| fun v86 w87 hH88 => ?_
        simp only [z2] at hH88
        refine AQ 13 rfl (hH88.sub (sQ (sP (sQ sR)))) (run_assign (by conv => lhs; whnf)) ?_
        refine AD <| CW.region <| V (run_add e18_15 rfl (by omega)) <| mI rfl <| RL.nil <| ?_
        refine ⟨(k + 1, st.take ((st.length : Int) - (l.getD k.toNat ins0).n).toNat ++ [foldE (opE s.sh (l.getD k.toNat ins0).op) (st.drop ((st.length : Int) - (l.getD k.toNat ins0).n).toNat)], v86), ?_, fr15.u4.u4.u4.u4.u4.u4.u4.u4, (Hp.conv (hH88.sub (sQ (sQ sR))) (by rw [flat_take elL_len, List.length_append, List.length_take, Nat.min_eq_left (by omega), List.flatMap_append]; done)), rfl, (congrArg I (by rfl)), ?_, ?_, ?_, ?_⟩
        ·((try dsimp only); omega)
        ·omega
        ·omega
        ·exact ev_3i h0 ‹k < _› hst ‹¬ (List.getD l k.toNat ins0).op = 1› ‹¬ (List.getD l k.toNat ins0).op = 2› rfl (by have := (deep_pop hr h0 ‹k < _› hdp ‹¬ (List.getD l k.toNat ins0).op = 1› ‹¬ (List.getD l k.toNat ins0).op = 2›); omega)
        ·(have hq := (deep_pop hr h0 ‹k < _› hdp ‹¬ (List.getD l k.toNat ins0).op = 1› ‹¬ (List.getD l k.toNat ins0).op = 2›); rw [hq.2.2, List.length_append, List.length_take, List.length_singleton]; congr 1 <;> omega)
       ·refine AO.new rfl gnone rfl hH78 (sP (sQ sR)) (f := fun b => .slice (some ⟨b, 0, none⟩) 1 1) (run_mkEl1 underlying25 rfl rfl rfl rfl) <| fun b91 w89 hH90 => ?_
        (try simp only [clX] at hH90)
        refine A1 3 <| AO.read rfl gnone rfl hH90 (sQ (sP (sQ sR))) (run_cut3 (hH90.sl (i := 2) rfl) underlying25 sizeOf33 rfl rfl rfl (by omega)) <| A1 12 <| AO.appG rfl gnone rfl hH90 (j := 2) rfl (q := (((st.length : Int) - (l.getD k.toNat ins0).n)).toNat) (by omega) (fun _ => (sQ (sP (sQ sR)))) (Hp.slFlat elL_len hH90 (i := 0) (l := [_]) rfl (by simp [maxLen])) rfl rfl underlying25 rfl rfl (size := 8) (bytes := 64) rfl rfl rfl (by simp) (by show (((st.length : Int) - (l.getD k.toNat ins0).n).toNat + 1) * _ ≤ _; omega) (by show ((st.length : Int) - (l.getD k.toNat ins0).n).toNat + 1 ≤ _; simp only [maxLen]; omega) <| fun v96 w97 hH98 => ?_
        simp only [z2] at hH98
        refine AQ 13 rfl (hH98.sub (sQ (sP (sQ sR)))) (run_assign (by conv => lhs; whnf)) ?_
        refine AD <| CW.region <| V (run_add e18_15 rfl (by omega)) <| mI rfl <| RL.nil <| ?_
        refine ⟨(k + 1, st.take ((st.length : Int) - (l.getD k.toNat ins0).n).toNat ++ [foldE (opE s.sh (l.getD k.toNat ins0).op) (st.drop ((st.length : Int) - (l.getD k.toNat ins0).n).toNat)], v96), ?_, fr15.u4.u4.u4.u4.u4.u4.u4.u4, (Hp.conv (hH98.sub (sQ (sQ sR))) (by rw [flat_take elL_len, List.length_append, List.length_take, Nat.min_eq_left (by omega), List.flatMap_append]; done)), rfl, (congrArg I (by rfl)), ?_, ?_, ?_, ?_⟩
        ·((try dsimp only); omega)
        ·omega
        ·omega
        ·exact ev_3i h0 ‹k < _› hst ‹¬ (List.getD l k.toNat ins0).op = 1› ‹¬ (List.getD l k.toNat ins0).op = 2› rfl (by have := (deep_pop hr h0 ‹k < _› hdp ‹¬ (List.getD l k.toNat ins0).op = 1› ‹¬ (List.getD l k.toNat ins0).op = 2›); omega)
        ·(have hq := (deep_pop hr h0 ‹k < _› hdp ‹¬ (List.getD l k.toNat ins0).op = 1› ‹¬ (List.getD l k.toNat ins0).op = 2›); rw [hq.2.2, List.length_append, List.length_take, List.length_singleton]; congr 1 <;> omega)
  ·refine CW.exit (id := 0) rfl <| SR <| vm e8_15 <| V (run_indexAddrS (hH15.sl (i := 0) rfl) underlying25 sizeOf33 rfl rfl (by have := deep_fin hr hk ‹¬ k < _› hdp; omega)) <| V (run_ldElS (hH15.sl (i := 0) rfl) underlying33 rfl rfl rfl (by have := deep_fin hr hk ‹¬ k < _› hdp; omega)) <| RL.set hH15 (i := 1) rfl (run_stEl rfl e6_15 rfl (hH15.blk (i := 1) rfl)) <| fun w99 hH100 => ?_
   simp only [z2] at hH100
   refine va (v := B true) rfl <| RL.nil <| CW.ret <| outCT Tryd.results33 e6_15 rfl hH100 (i := 1) rfl underlying33 rfl (by rw [elC_size]; rfl) ⟨?_, hH100.below⟩
   (rw [ev_end hr hk ‹¬ k < _› hst]; rfl)
theorem c_name_Sort_1 (b c d : Nat) (v : Value) (m : List Tx) (u : Value) (l : List Tx) (j i : Int) (hi : 0 ≤ i ∧ i < m.length) (hj : 0 ≤ j ∧ j < l.length) (w : World) (hs : Sl w v 1 m.length (txL m)) (ht : Sl w u 1 l.length (txL l)) (hb : w.heap[b]? = some (.cells #[v] 62 (0, 0))) (hc : w.heap[c]? = some (.cells #[u] 62 (0, 0))) (hd : w.heap[d]? = some (.cells #[I j] 3 (0, 0))) : Calls Tryd.prog 38 #[I i, .pointer (some ⟨b, 0, none⟩), .pointer (some ⟨c, 0, none⟩), .pointer (some ⟨d, 0, none⟩)] w (Pure (B (!lessT (m.getD i.toNat tx0) (l.getD j.toNat tx0))) w) := by
 have hm1 := hs.small
 have hm2 := ht.small
 unfold maxLen at hm1 hm2
 refine enter Tryd.func38 rfl Tryd.ntmps38 rfl <| have hH := Hp.start w; SR <| va (v := B false) rfl <| RL.nil <| CW.seq <| CW.regionD (by kernel_rfl) hH <| fun w1 hH2 => have zh2 := hH2.sub sR; AT 0 rfl zh2 (fun w hS => run_ld underlying62 rfl rfl (hS.extCell hb rfl)) <| AQ 1 rfl zh2 (mV (I _) rfl) <| AT 2 rfl zh2 (fun w hS => run_indexAddrS (hs.hp hS) underlying62 sizeOf9 rfl rfl (by omega)) <| AT 3 rfl zh2 (fun w hS => run_ld underlying9 rfl rfl ((hs.hp hS).cell _ _ (txL_at (by omega)))) <| AT 4 rfl zh2 (fun w hS => run_ld underlying62 rfl rfl (hS.extCell hc rfl)) <| AT 5 rfl zh2 (fun w hS => run_ld underlying3 rfl rfl (hS.extCell hd (v := I _) rfl)) <| AT 6 rfl zh2 (fun w hS => run_indexAddrS (ht.hp hS) underlying62 sizeOf9 rfl rfl (by omega)) <| AT 7 rfl zh2 (fun w hS => run_ld underlying9 rfl rfl ((ht.hp hS).cell _ _ (txL_at (by omega)))) <| AQ 8 rfl zh2 (run_geqS rfl rfl) <| AQ 9 rfl zh2 (aV (B _) rfl) <| AD <| CW.ret <| outP1 Tryd.results38 (congrArg B ?_) hH2.below
 rfl
theorem c_name_Sort (v : Value) (l : List Tx) (hl : l.length ≤ 3000) (w : World) (hs : Sl w v 1 l.length (txL l)) : Calls Tryd.prog 19 #[v] w (PureRow 9 1 (sortN l).length (txL (sortN l)) w) := by
 have hm := hs.small
 unfold maxLen at hm
 refine enter Tryd.func19 rfl Tryd.ntmps19 rfl <| have hH := Hp.start w; SR <| ?_
 refine RL.new rfl hH (f := fun b => (.pointer (some ⟨b, 0, none⟩))) (run_box (by conv => lhs; whnf)) ?_
 intro b3 w1 hH2
 rw [(one_sl hs).2] at hH2
 refine va (v := .slice none 0 0) rfl <| RL.nil <| SR <| RL.new rfl hH2 (f := fun b => (.pointer (some ⟨b, 0, none⟩))) (run_alloc Tryd.zeroValue62) <| fun b6 w4 hH5 => have hH7 := hH5.nilRow 9 1; RL.nil <| CW.seq <| SR <| V (run_ld underlying62 rfl rfl (hH7.cell (i := 2) rfl rfl)) <| V (run_lenSl (hs.hp hH7) rfl underlying62 rfl) <| vm (v := I 0) rfl <| RL.nil <| CW.block <| CW.loop (G := Int × Value × (List Tx)) (fun ⟨k, v0, m⟩ s' w' => (Fr (4 :: 5 :: (rg 8 44 [])) _ s') ∧ (Hp w w' (.row v0 9 1 (m.length) (txL m) :: .blk b6 (.cells (#[v0]) 62 (0, 0)) :: _)) ∧ (s' 8 = I k) ∧ (0 ≤ k) ∧ (k ≤ l.length) ∧ (m = sortN (l.take k.toNat)) ∧ ((m.length : Int) ≤ k)) (fun ⟨k, v0, m⟩ => (l.length - k).toNat) ((0, (.slice none 0 0 : Value), [])) ⟨Fr.refl _ _, hH7, rfl, (by omega), (by omega), rfl, (by simp)⟩ <| ?_
 rintro ⟨k, v0, m⟩ sg8 w8 ⟨fr8, hH8, e8_8, h0, hk, hm, hml⟩
 have e1_8 := fr8.pp 1 rfl rfl
 have e3_8 := fr8.pp 3 rfl rfl
 have e7_8 := fr8.ii 7 rfl rfl
 refine SR <| V (run_lss e8_8 e7_8) <| RL.nil <| CW.seq <| CW.condP rfl (fun h10 => ?_) (fun h10 => ?_)
 ·refine CW.skip <| CW.seq <| CW.block <| SR <| vm e8_8 <| RL.new rfl hH8 (f := fun b => (.pointer (some ⟨b, 0, none⟩))) (run_alloc Tryd.zeroValue3) <| fun b13 w11 hH12 => RL.set hH12 (i := 0) rfl (run_st rfl rfl (v := I _) rfl rfl rfl (hH12.blk (i := 0) rfl) (by decide)) <| fun w14 hH15 => ?_
  simp only [z2] at hH15
  refine RL.nil <| SR <| V (run_ld underlying62 rfl e3_8 (hH15.cell (i := 2) rfl rfl)) <| V (run_lenSl (hH15.sl (i := 1) rfl) rfl underlying62 rfl) <| ?_
  refine V (run_mkF3 e3_8 e1_8 (by conv => lhs; whnf)) ?_
  have hai : ¬ (findV (fun q => !lessT (m.getD q.toNat tx0) (l.getD k.toNat tx0)) m.length) < 0 → 0 ≤ (findV (fun q => !lessT (m.getD q.toNat tx0) (l.getD k.toNat tx0)) m.length) ∧ (findV (fun q => !lessT (m.getD q.toNat tx0) (l.getD k.toNat tx0)) m.length) < m.length := insAt_in
  refine RL.callP rfl hH15 (c_name_place m.length 38 [.pointer (some ⟨b6, 0, none⟩), .pointer (some ⟨b3, 0, none⟩), .pointer (some ⟨b13, 0, none⟩)] (fun q => !lessT (m.getD q.toNat tx0) (l.getD k.toNat tx0)) (by omega) _ call38 (fun i w h h0 h1 => c_name_Sort_1 b6 b3 b13 v0 m v l k i ⟨h0, h1⟩ ⟨by omega, by omega⟩ w ((hH15.sl (i := 1) rfl).below h) ((hs.hp hH15).below h) (keep h (hH15.blk (i := 2) rfl)) (keep h (hH15.blk (i := 3) rfl)) (keep h (hH15.blk (i := 0) rfl)))) (run_call3 call37 (show _ = I 0 from rfl) rfl rfl) <| fun w16 hH17 => aI rfl <| RL.nil <| CW.seq <| SR <| mI rfl <| V (run_lss rfl rfl) <| RL.nil <| CW.condP rfl (fun h19 => ?_) (fun h19 => ?_)
  ·refine CW.seq <| CW.regionS (by kernel_rfl) hH17 (sP (sQ (sQ sR))) <| fun w20 hH21 => have zh21 := hH21.sub (sP (sQ (sQ sR))); AT 1 rfl zh21 (fun w hS => run_ld underlying62 rfl e1_8 (hS.cell (i := 1) rfl rfl)) <| AT 2 rfl zh21 (fun w hS => run_ld underlying3 rfl rfl (hS.cell (i := 0) rfl (v := I _) rfl)) <| AT 3 rfl zh21 (fun w hS => run_indexAddrS (hs.hp hS) underlying62 sizeOf9 rfl rfl (by omega)) <| AT 4 rfl zh21 (fun w hS => run_ld underlying9 rfl rfl ((hs.hp hS).cell _ _ (txL_at (by omega)))) <| AN.two 0 5 (by kernel_rfl) ?_ ?_
   ·refine AO.read rfl gnone rfl hH21 (sP (sQ (sQ sR))) (run_ld underlying62 rfl e3_8 (hH21.cell (i := 2) rfl rfl)) <| A1 5 <| AO.new rfl gnone rfl hH21 (sP (sQ (sQ sR))) (f := fun b => .slice (some ⟨b, 0, none⟩) 1 1) (run_mkL underlying62 rfl rfl (sz := 1) (vs := [.string _]) rfl rfl (by decide) (by decide) rfl rfl) <| fun b26 w24 hH25 => ?_
    (try simp only [clX] at hH25)
    refine A1 6 <| AO.app rfl gnone rfl hH25 (j := 2) rfl (fun _ => (sQ (sP (sQ (sQ sR))))) (hH25.slBlk (i := 0) (n := 1) (sz := 1) rfl rfl (by decide)) rfl rfl underlying62 rfl rfl (size := 1) (bytes := 16) rfl rfl rfl (by decide) (by simp [Value.oneCell']) (by omega) (by simp only [maxLen]; omega) <| fun v29 w27 hH28 => ?_
    simp only [z2] at hH28
    refine A1 7 <| AO.set rfl gnone hH28 (j := 3) rfl (sQ (sP (sQ (sQ sR)))) (run_st rfl e3_8 (v := v29) rfl (row_cells (hH28.get (i := 2) rfl)).1 (row_cells (hH28.get (i := 2) rfl)).2 (hH28.blk (i := 3) rfl) (by simp)) <| fun w30 hH31 => ?_
    simp only [z2] at hH31
    refine AD <| CW.exit (id := 1) rfl <| CW.region <| V (run_add e8_8 rfl (by omega)) <| mI rfl <| RL.nil <| ?_
    refine ⟨(k + 1, v29, (m ++ [l.getD k.toNat tx0])), ?_, fr8.u4.u4.u4.u4.u1.u1.u1, (Hp.conv (hH31.sub (sQ (sQ sR))) (by simp [txL]; done)), (congrArg I (by rfl)), ?_, ?_, ?_, ?_⟩
    ·((try dsimp only); omega)
    ·omega
    ·omega
    ·rw [sort_next h0 ‹k < _›, ← hm]; exact (ins_1 ‹(findV (fun q => !lessT (m.getD q.toNat tx0) (l.getD k.toNat tx0)) m.length) < 0›).symm
    ·(simp only [List.length_append, List.length_singleton]; omega)
   ·refine AO.new rfl gnone rfl hH21 (sP (sQ (sQ sR))) (f := fun b => .slice (some ⟨b, 0, none⟩) 1 1) (run_mkL underlying62 rfl rfl (sz := 1) (vs := [.string _]) rfl rfl (by decide) (by decide) rfl rfl) <| fun b34 w32 hH33 => ?_
    (try simp only [clX] at hH33)
    refine A1 0 <| AO.read rfl gnone rfl hH33 (sQ (sP (sQ (sQ sR)))) (run_ld underlying62 rfl e3_8 (hH33.cell (i := 3) rfl rfl)) <| A1 6 <| AO.app rfl gnone rfl hH33 (j := 2) rfl (fun _ => (sQ (sP (sQ (sQ sR))))) (hH33.slBlk (i := 0) (n := 1) (sz := 1) rfl rfl (by decide)) rfl rfl underlying62 rfl rfl (size := 1) (bytes := 16) rfl rfl rfl (by decide) (by simp [Value.oneCell']) (by omega) (by simp only [maxLen]; omega) <| fun v39 w37 hH38 => ?_
    simp only [z2] at hH38
    refine A1 7 <| AO.set rfl gnone hH38 (j := 3) rfl (sQ (sP (sQ (sQ sR)))) (run_st rfl e3_8 (v := v39) rfl (row_cells (hH38.get (i := 2) rfl)).1 (row_cells (hH38.get (i := 2) rfl)).2 (hH38.blk (i := 3) rfl) (by simp)) <| fun w40 hH41 => ?_
    simp only [z2] at hH41
    refine AD <| CW.exit (id := 1) rfl <| CW.region <| V (run_add e8_8 rfl (by omega)) <| mI rfl <| RL.nil <| ?_
    refine ⟨(k + 1, v39, (m ++ [l.getD k.toNat tx0])), ?_, fr8.u4.u4.u4.u4.u1.u1.u1, (Hp.conv (hH41.sub (sQ (sQ sR))) (by simp [txL]; done)), (congrArg I (by rfl)), ?_, ?_, ?_, ?_⟩
    ·((try dsimp only); omega)
    ·omega
    ·omega
    ·rw [sort_next h0 ‹k < _›, ← hm]; exact (ins_1 ‹(findV (fun q => !lessT (m.getD q.toNat tx0) (l.getD k.toNat tx0)) m.length) < 0›).symm
    ·(simp only [List.length_append, List.length_singleton]; omega)
  ·refine CW.skip <| CW.seq <| CW.regionD (by kernel_rfl) hH17 <| fun w42 hH43 => have zh43 := hH43.sub sR; AT 0 rfl zh43 (fun w hS => run_ld underlying62 rfl e3_8 (hS.cell (i := 2) rfl rfl)) <| AQ 1 rfl zh43 (mV (I _) rfl) <| AT 2 rfl zh43 (fun w hS => run_indexAddrS (hS.sl (i := 1) rfl) underlying62 sizeOf9 rfl rfl (by omega)) <| AT 3 rfl zh43 (fun w hS => run_ld underlying9 rfl rfl ((hS.sl (i := 1) rfl).cell _ _ (txL_at (by omega)))) <| AT 4 rfl zh43 (fun w hS => run_ld underlying62 rfl e1_8 (hS.cell (i := 3) rfl rfl)) <| AT 5 rfl zh43 (fun w hS => run_ld underlying3 rfl rfl (hS.cell (i := 0) rfl (v := I _) rfl)) <| AT 6 rfl zh43 (fun w hS => run_indexAddrS (hs.hp hS) underlying62 sizeOf9 rfl rfl (by omega)) <| AT 7 rfl zh43 (fun w hS => run_ld underlying9 rfl rfl ((hs.hp hS).cell _ _ (txL_at (by omega)))) <| AQ 8 rfl zh43 (run_neqS rfl rfl) <| AD <| CW.condP rfl (fun h45 => ?_) (fun h45 => ?_)
   ·refine SR <| V (run_ld underlying62 rfl e3_8 (hH43.cell (i := 2) rfl rfl)) <| RL.new rfl hH43 (f := fun b => (.slice (some ⟨b, 0, none⟩) 1 1)) (run_mkL underlying62 rfl rfl (sz := 1) (vs := [.string ⟨#[]⟩]) rfl rfl (by decide) (by decide) rfl rfl) <| fun b48 w46 hH47 => ?_
    (try simp only [clX] at hH47)
    refine RL.app rfl hH47 (i := 2) rfl (hH47.slBlk (i := 0) (n := 1) (sz := 1) rfl rfl (by decide)) rfl rfl underlying62 rfl rfl (size := 1) (bytes := 16) rfl rfl rfl (by decide) (by simp [Value.oneCell']) (by omega) (by simp only [maxLen]; omega) <| fun v49 w50 hH51 => ?_
    simp only [z2] at hH51
    refine RL.set hH51 (i := 3) rfl (run_st rfl e3_8 (by conv => lhs; whnf) (row_cells (hH51.get (i := 2) rfl)).1 (row_cells (hH51.get (i := 2) rfl)).2 (hH51.blk (i := 3) rfl) (by simp)) ?_
    intro w52 hH53
    simp only [z2] at hH53
    refine RL.nil <| CW.seq <| CW.regionS (by kernel_rfl) hH53 (sP (sP (sQ sR))) <| fun w54 hH55 => have zh55 := hH55.sub (sP (sP (sQ sR))); AT 0 rfl zh55 (fun w hS => run_ld underlying62 rfl e3_8 (hS.cell (i := 2) rfl rfl)) <| AQ 1 rfl zh55 (mV (I _) rfl) <| AQ 2 rfl zh55 (run_add rfl rfl (by omega)) <| AT 4 rfl zh55 (fun w hS => run_ld underlying62 rfl e3_8 (hS.cell (i := 2) rfl rfl)) <| AQ 5 rfl zh55 (mV (I _) rfl) <| AN.two 3 6 (by kernel_rfl) ?_ ?_
    ·refine AO.read rfl gnone rfl hH55 (sP (sP (sQ sR))) (run_from (hH55.sl (i := 2) rfl) underlying62 sizeOf9 rfl rfl (by omega)) <| A1 6 <| AO.read rfl gnone rfl hH55 (sP (sP (sQ sR))) (run_from (hH55.sl (i := 2) rfl) underlying62 sizeOf9 rfl rfl (by omega)) <| A1 7 <| AO.rowcopy rfl gnone rfl (row_copyF (c := m.length - ((findV (fun q => !lessT (m.getD q.toNat tx0) (l.getD k.toNat tx0)) m.length)).toNat) (o := ((findV (fun q => !lessT (m.getD q.toNat tx0) (l.getD k.toNat tx0)) m.length) + 1).toNat) hH55 (i := 2) rfl (by omega) underlying62 rfl rfl rfl (Sl.fr (hH55.sl (i := 2) rfl) ((findV (fun q => !lessT (m.getD q.toNat tx0) (l.getD k.toNat tx0)) m.length)).toNat (by omega)) (by show min _ _ = _; omega) (by omega) (fun u hu => txs_one (List.mem_of_mem_drop hu))) (fun w' h => h.sub (sP (sP (sQ sR)))) <| fun w62 hH63 => ?_
     simp only [z2] at hH63
     refine AD <| CW.regionS (by kernel_rfl) hH63 (sP (sP (sQ sR))) <| fun w64 hH65 => have zh65 := hH65.sub (sP (sP (sQ sR))); AT 0 rfl zh65 (fun w hS => run_ld underlying62 rfl e3_8 (hS.cell (i := 2) rfl rfl)) <| AQ 1 rfl zh65 (mV (I _) rfl) <| AT 2 rfl zh65 (fun w hS => run_ld underlying62 rfl e1_8 (hS.cell (i := 3) rfl rfl)) <| AT 3 rfl zh65 (fun w hS => run_ld underlying3 rfl rfl (hS.cell (i := 1) rfl (v := I _) rfl)) <| AT 4 rfl zh65 (fun w hS => run_indexAddrS (hs.hp hS) underlying62 sizeOf9 rfl rfl (by omega)) <| AT 5 rfl zh65 (fun w hS => run_ld underlying9 rfl rfl ((hs.hp hS).cell _ _ (txL_at (by omega)))) <| A1 6 <| AO.read rfl gnone rfl hH65 (sP (sP (sQ sR))) (run_indexAddrS (hH65.sl (i := 2) rfl) underlying62 sizeOf9 rfl rfl (by omega)) <| A1 7 <| AO.rowst1 rfl gnone hH65 (i := 2) rfl (fun _ => (sP (sP (sQ sR)))) (by omega) rfl (u := S _) rfl rfl rfl rfl (by omega) <| fun w70 hH71 => ?_
     simp only [z2] at hH71
     refine AD <| CW.region <| V (run_add e8_8 rfl (by omega)) <| mI rfl <| RL.nil <| ?_
     refine ⟨(k + 1, v49, (m.take (findV (fun q => !lessT (m.getD q.toNat tx0) (l.getD k.toNat tx0)) m.length).toNat ++ l.getD k.toNat tx0 :: m.drop (findV (fun q => !lessT (m.getD q.toNat tx0) (l.getD k.toNat tx0)) m.length).toNat)), ?_, fr8.u4.u4.u4.u4.u4.u4.u4.u4.u4.u1.u1.u1, (Hp.conv (hH71.sub (sQ (sQ sR))) (by rw [sort_put (hai ‹_›).1 (hai ‹_›).2]; simp; omega)), (congrArg I (by rfl)), ?_, ?_, ?_, ?_⟩
     ·((try dsimp only); omega)
     ·omega
     ·omega
     ·rw [sort_next h0 ‹k < _›, ← hm]; exact (ins_3 ‹¬ (findV (fun q => !lessT (m.getD q.toNat tx0) (l.getD k.toNat tx0)) m.length) < 0› ‹¬ _ = _›).symm
     ·(simp; omega)
    ·refine AO.read rfl gnone rfl hH55 (sP (sP (sQ sR))) (run_from (hH55.sl (i := 2) rfl) underlying62 sizeOf9 rfl rfl (by omega)) <| A1 3 <| AO.read rfl gnone rfl hH55 (sP (sP (sQ sR))) (run_from (hH55.sl (i := 2) rfl) underlying62 sizeOf9 rfl rfl (by omega)) <| A1 7 <| AO.rowcopy rfl gnone rfl (row_copyF (c := m.length - ((findV (fun q => !lessT (m.getD q.toNat tx0) (l.getD k.toNat tx0)) m.length)).toNat) (o := ((findV (fun q => !lessT (m.getD q.toNat tx0) (l.getD k.toNat tx0)) m.length) + 1).toNat) hH55 (i := 2) rfl (by omega) underlying62 rfl rfl rfl (Sl.fr (hH55.sl (i := 2) rfl) ((findV (fun q => !lessT (m.getD q.toNat tx0) (l.getD k.toNat tx0)) m.length)).toNat (by omega)) (by show min _ _ = _; omega) (by omega) (fun u hu => txs_one (List.mem_of_mem_drop hu))) (fun w' h => h.sub (sP (sP (sQ sR)))) <| fun w78 hH79 => ?_
     simp only [z2] at hH79
     refine AD <| CW.regionS (by kernel_rfl) hH79 (sP (sP (sQ sR))) <| fun w80 hH81 => have zh81 := hH81.sub (sP (sP (sQ sR))); AT 0 rfl zh81 (fun w hS => run_ld underlying62 rfl e3_8 (hS.cell (i := 2) rfl rfl)) <| AQ 1 rfl zh81 (mV (I _) rfl) <| AT 2 rfl zh81 (fun w hS => run_ld underlying62 rfl e1_8 (hS.cell (i := 3) rfl rfl)) <| AT 3 rfl zh81 (fun w hS => run_ld underlying3 rfl rfl (hS.cell (i := 1) rfl (v := I _) rfl)) <| AT 4 rfl zh81 (fun w hS => run_indexAddrS (hs.hp hS) underlying62 sizeOf9 rfl rfl (by omega)) <| AT 5 rfl zh81 (fun w hS => run_ld underlying9 rfl rfl ((hs.hp hS).cell _ _ (txL_at (by omega)))) <| A1 6 <| AO.read rfl gnone rfl hH81 (sP (sP (sQ sR))) (run_indexAddrS (hH81.sl (i := 2) rfl) underlying62 sizeOf9 rfl rfl (by omega)) <| A1 7 <| AO.rowst1 rfl gnone hH81 (i := 2) rfl (fun _ => (sP (sP (sQ sR)))) (by omega) rfl (u := S _) rfl rfl rfl rfl (by omega) <| fun w86 hH87 => ?_
     simp only [z2] at hH87
     refine AD <| CW.region <| V (run_add e8_8 rfl (by omega)) <| mI rfl <| RL.nil <| ?_
     refine ⟨(k + 1, v49, (m.take (findV (fun q => !lessT (m.getD q.toNat tx0) (l.getD k.toNat tx0)) m.length).toNat ++ l.getD k.toNat tx0 :: m.drop (findV (fun q => !lessT (m.getD q.toNat tx0) (l.getD k.toNat tx0)) m.length).toNat)), ?_, fr8.u4.u4.u4.u4.u4.u4.u4.u4.u4.u1.u1.u1, (Hp.conv (hH87.sub (sQ (sQ sR))) (by rw [sort_put (hai ‹_›).1 (hai ‹_›).2]; simp; omega)), (congrArg I (by rfl)), ?_, ?_, ?_, ?_⟩
     ·((try dsimp only); omega)
     ·omega
     ·omega
     ·rw [sort_next h0 ‹k < _›, ← hm]; exact (ins_3 ‹¬ (findV (fun q => !lessT (m.getD q.toNat tx0) (l.getD k.toNat tx0)) m.length) < 0› ‹¬ _ = _›).symm
     ·(simp; omega)
   ·refine CW.skip <| CW.region <| V (run_add e8_8 rfl (by omega)) <| mI rfl <| RL.nil <| ?_
    refine ⟨(k + 1, v0, m), ?_, fr8.u4.u4.u4.u4.u4.u1, (Hp.conv (hH43.sub (sQ sR)) (by rfl)), (congrArg I (by rfl)), ?_, ?_, ?_, ?_⟩
    ·((try dsimp only); omega)
    ·omega
    ·omega
    ·rw [sort_next h0 ‹k < _›, ← hm]; exact (ins_2 ‹¬ (findV (fun q => !lessT (m.getD q.toNat tx0) (l.getD k.toNat tx0)) m.length) < 0› (Decidable.of_not_not ‹¬ ¬ _›)).symm
    ·omega
 ·refine CW.exit (id := 0) rfl <| SR <| V (run_ld underlying62 rfl e3_8 (hH8.cell (i := 1) rfl rfl)) <| ?_
  refine V (run_assign (by conv => lhs; whnf)) ?_
  refine RL.nil <| CW.ret <| outR Tryd.results19 rfl hH8 (i := 0) rfl ((by rw [hm, List.take_of_length_le (by omega)])) ((by rw [hm, List.take_of_length_le (by omega)]))
theorem c_holds_gathered_1 (W0 : World) (L : List Ent) (b c bm : Nat) (kv : List (Tx × El)) (es : Array MapEntry) (ck : Nat) (o : Bool) (f : Tx) (e : El) (is : Bool) (hm : MpIs es ck kv) (w : World) (hH : Hp W0 w (.blk bm (.map es ck) :: .blk c (.cells #[B o] 4 (0, 0)) :: .blk b (.cells #[.map (some bm)] 76 (0, 0)) :: L)) : Calls Tryd.prog 36 #[S f, .agg (elC e), B is, .pointer (some ⟨b, 0, none⟩), .pointer (some ⟨c, 0, none⟩)] w (Ret fun u w' => u = .tuple #[] ∧ ∃ es' ck', MpIs es' ck' (putK kv f e) ∧ Hp W0 w' (.blk bm (.map es' ck') :: .blk c (.cells #[B (o && is && !(lookK kv f).2)] 4 (0, 0)) :: .blk b (.cells #[.map (some bm)] 76 (0, 0)) :: L)) := by
 refine enter Tryd.func36 rfl Tryd.ntmps36 rfl <| SR <| RL.new rfl hH (f := fun b => (.pointer (some ⟨b, 0, none⟩))) (run_box (v := .agg _) rfl) <| fun b4 w2 hH3 => RL.nil <| SR <| V (run_ld underlying76 rfl rfl (hH3.cell (i := 3) rfl rfl)) <| vm (v := .string _) rfl <| V (run_lookup2 underlying76 underlying9 zero_el rfl rfl (hH3.blk (i := 1) rfl) hm) <| ?_
 refine V (run_move (by conv => lhs; whnf)) ?_
 refine V (run_extract rfl (v := .agg _) rfl) <| V (run_extract rfl (v := B _) rfl) <| RL.new rfl hH3 (f := fun b => (.pointer (some ⟨b, 0, none⟩))) (run_alloc zero_el) <| fun b8 w6 hH7 => RL.set hH7 (i := 0) rfl (run_stEl rfl rfl rfl (hH7.blk (i := 0) rfl)) <| fun w9 hH10 => ?_
 simp only [z2] at hH10
 refine aB rfl <| RL.nil <| SR <| V (run_ld underlying4 rfl rfl (hH10.cell (i := 3) rfl (v := B _) rfl)) <| mB rfl <| RL.split (dj := 17) rfl (fun h12 => ?_) (fun h12 => ?_)
 ·refine gT rfl (bR (c := true) h12) <| mB rfl <| V (run_pickT (bR (c := true) h12) (v := B _) rfl) <| mB rfl <| RL.split (dj := 20) rfl (fun h13 => ?_) (fun h13 => ?_)
  ·refine gT rfl (bR (c := true) h13) <| mB rfl <| gT rfl (bR (c := true) h13) <| V (run_not rfl) <| V (run_pickT (bR (c := true) h13) (v := B _) rfl) <| RL.set hH10 (i := 3) rfl (run_st rfl rfl (v := B _) rfl rfl rfl (hH10.blk (i := 3) rfl) (by simp)) <| fun w14 hH15 => ?_
   simp only [z2] at hH15
   refine RL.nil <| CW.region <| V (run_ld underlying76 rfl rfl (hH15.cell (i := 4) rfl rfl)) <| vm (v := .string _) rfl <| V (run_ldEl underlying33 rfl rfl rfl (hH15.blk (i := 1) rfl)) <| RL.mapUp hH15 (i := 2) rfl hm underlying76 underlying9 rfl rfl rfl <| fun w16 es18 ck19 hmp20 hH17 => ?_
   simp only [z2] at hH17
   refine RL.nil <| out0 Tryd.results36 ⟨rfl, es18, ck19, hmp20, Hp.conv (hH17.sub (sQ (sQ sR))) ?_⟩
   (rw [‹o = true›, ‹is = true›]; rfl)
  ·refine gF rfl (bR (c := false) h13) <| gF rfl (bR (c := false) h13) <| V (run_pickF (bR (c := false) h13) (v := B false) rfl) <| RL.set hH10 (i := 3) rfl (run_st rfl rfl (v := B _) rfl rfl rfl (hH10.blk (i := 3) rfl) (by simp)) <| fun w21 hH22 => ?_
   simp only [z2] at hH22
   refine RL.nil <| CW.region <| V (run_ld underlying76 rfl rfl (hH22.cell (i := 4) rfl rfl)) <| vm (v := .string _) rfl <| V (run_ldEl underlying33 rfl rfl rfl (hH22.blk (i := 1) rfl)) <| RL.mapUp hH22 (i := 2) rfl hm underlying76 underlying9 rfl rfl rfl <| fun w23 es25 ck26 hmp27 hH24 => ?_
   simp only [z2] at hH24
   refine RL.nil <| out0 Tryd.results36 ⟨rfl, es25, ck26, hmp27, Hp.conv (hH24.sub (sQ (sQ sR))) ?_⟩
   (rw [‹o = true›, ‹is = false›]; rfl)
 ·refine gF rfl (bR (c := false) h12) <| V (run_pickF (bR (c := false) h12) (v := B false) rfl) <| mB rfl <| gF rfl rfl <| gF rfl rfl <| V (run_pickF rfl (v := B false) rfl) <| RL.set hH10 (i := 3) rfl (run_st rfl rfl (v := B _) rfl rfl rfl (hH10.blk (i := 3) rfl) (by simp)) <| fun w28 hH29 => ?_
  simp only [z2] at hH29
  refine RL.nil <| CW.region <| V (run_ld underlying76 rfl rfl (hH29.cell (i := 4) rfl rfl)) <| vm (v := .string _) rfl <| V (run_ldEl underlying33 rfl rfl rfl (hH29.blk (i := 1) rfl)) <| RL.mapUp hH29 (i := 2) rfl hm underlying76 underlying9 rfl rfl rfl <| fun w30 es32 ck33 hmp34 hH31 => ?_
  simp only [z2] at hH31
  refine RL.nil <| out0 Tryd.results36 ⟨rfl, es32, ck33, hmp34, Hp.conv (hH31.sub (sQ (sQ sR))) ?_⟩
  (rw [‹o = false›]; rfl)
theorem c_holds_gathered (r : RowR) (a : Asg) (w : World) (hr : RowV (Kw w) r) (ha : AsgV (Kw w) a) : Calls Tryd.prog 18 #[.agg (rtmL r).toArray, .agg (asgL a).toArray] w (Ret fun u w' => ∃ (bm : Nat) (es : Array MapEntry) (ck : Nat) (kv : List (Tx × El)) (o : Bool), u = .tuple #[.map (some bm), B o] ∧ (o = (allOk a.as r && onceV (allV a.as r)) ∧ (o = true → kv = (allV a.as r).map pairV)) ∧ MpIs es ck kv ∧ Hp w w' [.blk bm (.map es ck)]) := by
 have hm1 := ha.labels.small
 have hm2 := ha.rows.small
 have hm3 := hr.fields.small
 unfold maxLen at hm1 hm2 hm3
 refine enter Tryd.func18 rfl Tryd.ntmps18 rfl <| have hH := Hp.start w; SR <| RL.new rfl hH (f := fun b => (.pointer (some ⟨b, 0, none⟩))) (run_box (v := .agg _) rfl) <| fun b3 w1 hH2 => RL.new rfl hH2 (f := fun b => (.pointer (some ⟨b, 0, none⟩))) (run_box (v := .agg _) rfl) <| fun b6 w4 hH5 => va (v := .map none) rfl <| va (v := B false) rfl <| RL.nil <| SR <| RL.new rfl hH5 (f := fun b => .map (some b)) run_makeMap <| fun b7 w8 hH9 => RL.new rfl hH9 (f := fun b => (.pointer (some ⟨b, 0, none⟩))) (run_alloc Tryd.zeroValue76) <| fun b12 w10 hH11 => ?_
 refine RL.set hH11 (i := 0) rfl (run_st rfl rfl (by conv => lhs; whnf) rfl rfl (hH11.blk (i := 0) rfl) (by decide)) ?_
 intro w13 hH14
 simp only [z2] at hH14
 refine RL.nil <| SR <| V (fA underlying24 1 rfl sizeOf3 rfl) <| V (run_ld underlying3 rfl rfl (hH14.cell (i := 3) rfl (v := I _) rfl)) <| V (fA underlying28 1 rfl sizeOf26 rfl) <| V (run_ldV (ha.rows.sl.hp hH14) underlying26 rfl rfl (hH14.cell (i := 2) rfl rfl)) <| V (run_lenSl (ha.rows.sl.hp hH14) rfl underlying26 rfl) <| V (run_lss rfl rfl) <| RL.new rfl hH14 (f := fun b => (.pointer (some ⟨b, 0, none⟩))) (run_alloc Tryd.zeroValue4) <| fun b18 w16 hH17 => RL.set hH17 (i := 0) rfl (run_st rfl rfl (v := B _) rfl rfl rfl (hH17.blk (i := 0) rfl) (by decide)) <| fun w19 hH20 => ?_
 simp only [z2] at hH20
 refine RL.nil <| SR <| ?_
 refine V (run_mkF2 (by conv => lhs; whnf) (by conv => lhs; whnf)) ?_
 refine va (v := .func _ _ _) rfl <| RL.nil <| CW.seq <| SR <| V (run_ld underlying4 rfl rfl (hH20.cell (i := 0) rfl (v := B _) rfl)) <| mB rfl <| RL.splitP (dj := 24) rfl (fun h23 => ?_) (fun h23 => ?_)
 ·refine gT rfl (bT h23) <| V (fA underlying24 1 rfl sizeOf3 rfl) <| gT rfl (bT h23) <| V (run_ld underlying3 rfl rfl (hH20.cell (i := 4) rfl (v := I _) rfl)) <| gT rfl (bT h23) <| V (run_geq rfl rfl) <| V (run_pickT (bT h23) (v := B _) rfl) <| RL.nil <| CW.condP rfl (fun h25 => ?_) (fun h25 => ?_)
  ·refine SR <| V (fA underlying28 1 rfl sizeOf26 rfl) <| V (run_ldV (ha.rows.sl.hp hH20) underlying26 rfl rfl (hH20.cell (i := 3) rfl rfl)) <| V (fA underlying24 1 rfl sizeOf3 rfl) <| V (run_ld underlying3 rfl rfl (hH20.cell (i := 4) rfl (v := I _) rfl)) <| V (run_indexAddrS (ha.rows.sl.hp hH20) underlying26 sizeOf40 rfl rfl (by omega)) <| V (run_ld underlying40 rfl rfl ((ha.rows.sl.hp hH20).cell _ _ (rowsC_at (by omega)))) <| V (run_lenSl ((ha.at (by omega) (by omega)).sl.hp hH20) rfl underlying40 rfl) <| vm (v := I 0) rfl <| RL.nil <| CW.block <| have hm4 := (ha.at (show 0 ≤ r.tail by omega) (by omega)).small; ?_
   unfold maxLen at hm4
   refine CW.loop (G := Int × (Array MapEntry) × Nat × (List (Tx × El)) × Bool) (fun ⟨k, es, ck, kv, o⟩ s' w' => (Fr (10 :: (rg 36 11 [])) _ s') ∧ (Hp w w' (.blk b18 (.cells (#[B o]) 4 (0, 0)) :: _ :: .blk b7 (.map es ck) :: _)) ∧ (s' 36 = I k) ∧ (0 ≤ k) ∧ (k ≤ (a.rows.getD r.tail.toNat vr0).l.length) ∧ (MpIs es ck kv) ∧ (GSt ((a.rows.getD r.tail.toNat vr0).l.take k.toNat) true o kv)) (fun ⟨k, es, ck, kv, o⟩ => ((a.rows.getD r.tail.toNat vr0).l.length - k).toNat) ((0, #[], 0, [], (decide (r.tail < (a.rows.length : Int))))) ⟨Fr.refl _ _, hH20, rfl, (by omega), (by omega), mp_nil, (by rw [decide_eq_true (show r.tail < (a.rows.length : Int) by omega)]; exact gst_0 true)⟩ ?_
   rintro ⟨k, es, ck, kv, o⟩ sg26 w26 ⟨fr26, hH26, e36_26, h0, hk, hmp, hg⟩
   have e2_26 := fr26.pp 2 rfl rfl
   have e3_26 := fr26.pp 3 rfl rfl
   have e4_26 := (fr26 4 rfl).trans (by conv => lhs; whnf)
   have e5_26 := fr26.bb 5 rfl rfl
   have e6_26 := fr26.pp 6 rfl rfl
   have e7_26 := fr26.pp 7 rfl rfl
   have e8_26 := fr26.vv 8 (a := .func _ _ _) rfl rfl
   have e34_26 := (fr26 34 rfl).trans (by conv => lhs; whnf)
   have e35_26 := fr26.ii 35 rfl rfl
   refine SR <| V (run_lss e36_26 e35_26) <| RL.nil <| CW.seq <| CW.condP rfl (fun h28 => ?_) (fun h28 => ?_)
   ·refine CW.skip <| CW.seq <| CW.block <| SR <| V (run_indexAddrS ((ha.at (by omega) (by omega)).sl.hp hH26) underlying40 sizeOf61 e34_26 e36_26 (by omega)) <| V (run_ldE (dv := val0) valL_len ((ha.at (by omega) (by omega)).sl.hp hH26) underlying61 rfl rfl rfl (by omega)) <| RL.new rfl hH26 (f := fun b => (.pointer (some ⟨b, 0, none⟩))) (run_alloc zero_val) <| fun b31 w29 hH30 => RL.set hH30 (i := 0) rfl (run_stW (c' := (valL _).toArray) rfl rfl rfl (valL_one _) (hH30.blk (i := 0) rfl) rfl) <| fun w32 hH33 => ?_
    simp only [z2] at hH33
    refine RL.nil <| CW.region <| vm e8_26 <| V (fA underlying61 0 rfl sizeOf9 rfl) <| V (run_ld underlying9 rfl rfl (hH33.cell (i := 0) rfl (v := .string _) rfl)) <| V (fA underlying61 1 rfl sizeOf33 rfl) <| V (run_ldVB underlying33 rfl rfl rfl (hH33.blk (i := 0) rfl)) <| RL.callT rfl (c_holds_gathered_1 _ _ b12 b18 b7 kv es ck o _ _ _ hmp _ (hH33.perm (((pC ((pC ((pC pR).trans pS)).trans pS)).trans pS).trans (pC (((pC pR).trans pS).trans (pC (((pC pR).trans pS).trans (pC pR)))))))) (run_callC3 call36 (cs := [.pointer (some ⟨b12, 0, none⟩), .pointer (some ⟨b18, 0, none⟩)]) rfl rfl rfl (show _ = B true from rfl)) <| ?_
    rintro _ w36 ⟨rfl, es38, ck39, hmp40, hH37⟩
    have hH41 := hH37.perm (((pC ((pC ((pC pR).trans pS)).trans pS)).trans pS).trans (pC (((pC pR).trans pS).trans (pC (((pC pR).trans pS).trans (pC pR))))))
    refine RL.nil <| CW.region <| V (run_add e36_26 rfl (by omega)) <| mI rfl <| RL.nil <| ?_
    refine ⟨(k + 1, es38, ck39, (putK kv ((a.rows.getD r.tail.toNat vr0).l.getD k.toNat val0).name ((a.rows.getD r.tail.toNat vr0).l.getD k.toNat val0).el), (o && true && !(lookK kv ((a.rows.getD r.tail.toNat vr0).l.getD k.toNat val0).name).2)), ?_, fr26.u4.u4.u4, (Hp.conv (hH41.sub (sQ sR)) (by rfl)), (congrArg I (by rfl)), ?_, ?_, ?_, ?_⟩
    ·((try dsimp only); omega)
    ·omega
    ·omega
    ·exact hmp40
    ·rw [take_snoc (d := val0) h0 ‹k < _›]; exact gst_next hg
   ·refine CW.exit (id := 0) rfl <| CW.seq <| SR <| V (fA underlying24 0 rfl sizeOf22 e2_26) <| V (run_ldV (hr.fields.sl.hp hH26) underlying22 rfl rfl (hH26.cell (i := 4) rfl rfl)) <| V (run_lenSl (hr.fields.sl.hp hH26) rfl underlying22 rfl) <| vm (v := I 0) rfl <| RL.nil <| CW.block <| CW.loop (G := Int × (Array MapEntry) × Nat × (List (Tx × El)) × Bool) (fun ⟨j, es, ck, kv, o⟩ s' w' => (Fr (rg 12 3 (rg 50 18 [])) _ s') ∧ (Hp w w' (.blk b18 (.cells (#[B o]) 4 (0, 0)) :: _ :: .blk b7 (.map es ck) :: _)) ∧ (s' 50 = I j) ∧ (0 ≤ j) ∧ (j ≤ r.fields.length) ∧ (MpIs es ck kv) ∧ (GSt (preV a.as r ++ (r.fields.take j.toNat).map (valF a.as)) (decide (r.tail < (a.as.rows.length : Int)) && (r.fields.take j.toNat).all fun f => (atomF a.as f.at_).2) o kv)) (fun ⟨j, es, ck, kv, o⟩ => (r.fields.length - j).toNat) ((0, es, ck, kv, o)) ⟨Fr.refl _ _, hH26, rfl, (by omega), (by omega), hmp, (by exact gst_i1 hg (pre_1a (by omega) (by omega) ‹¬ k < _›) (by omega))⟩ <| ?_
    rintro ⟨j, es, ck, kv, o⟩ sg42 w42 ⟨fr42, hH42, e50_42, j0, jk, hmp, hg⟩
    have e3_42 := (fr42 3 rfl).trans e3_26
    have e6_42 := (fr42 6 rfl).trans e6_26
    have e7_42 := (fr42 7 rfl).trans e7_26
    have e8_42 := (fr42 8 rfl).trans e8_26
    have e48_42 := (fr42 48 rfl).trans (by conv => lhs; whnf)
    have e49_42 := fr42.ii 49 rfl rfl
    refine SR <| V (run_lss e50_42 e49_42) <| RL.nil <| CW.seq <| CW.condP rfl (fun h44 => ?_) (fun h44 => ?_)
    ·refine CW.skip <| CW.seq <| CW.block <| SR <| V (run_indexAddrS (hr.fields.sl.hp hH42) underlying22 sizeOf59 e48_42 e50_42 (by omega)) <| V (run_ldE (dv := field0) fieldL_len (hr.fields.sl.hp hH42) underlying59 rfl rfl rfl (by omega)) <| RL.new rfl hH42 (f := fun b => (.pointer (some ⟨b, 0, none⟩))) (run_alloc zero_field) <| fun b47 w45 hH46 => RL.set hH46 (i := 0) rfl (run_stW (c' := (fieldL _).toArray) rfl rfl rfl (fieldL_one _) (hH46.blk (i := 0) rfl) rfl) <| fun w48 hH49 => ?_
     simp only [z2] at hH49
     refine RL.nil <| SR <| V (fA underlying59 1 rfl sizeOf35 rfl) <| V (run_ldSub (sub := atomL _) underlying35 rfl rfl rfl (hH49.blk (i := 0) rfl) (field_atB _)) <| V (run_ldA (cs := asgL _) underlying28 rfl rfl e3_42 (rangeAt_cells (hH49.blk (i := 4) rfl))) <| RL.callP rfl hH49 (c_holds_atom _ _  _ (ha.mono hH49.kw)) (run_call2 call34 rfl rfl) <| fun w50 hH51 => ?_
     refine V (run_move (by conv => lhs; whnf)) ?_
     refine V (run_extract rfl (v := .agg _) rfl) <| V (run_extract rfl (v := B _) rfl) <| RL.new rfl hH51 (f := fun b => (.pointer (some ⟨b, 0, none⟩))) (run_alloc zero_el) <| fun b55 w53 hH54 => RL.set hH54 (i := 0) rfl (run_stEl rfl rfl rfl (hH54.blk (i := 0) rfl)) <| fun w56 hH57 => ?_
     simp only [z2] at hH57
     refine aB rfl <| RL.nil <| CW.region <| vm e8_42 <| V (fA underlying59 0 rfl sizeOf9 rfl) <| V (run_ld underlying9 rfl rfl (hH57.cell (i := 1) rfl (v := .string _) rfl)) <| V (run_ldEl underlying33 rfl rfl rfl (hH57.blk (i := 0) rfl)) <| mB rfl <| RL.callT rfl (c_holds_gathered_1 _ _ b12 b18 b7 kv es ck o _ _ _ hmp _ (hH57.perm (((pC ((pC ((pC ((pC pR).trans pS)).trans pS)).trans pS)).trans pS).trans (pC (((pC ((pC pR).trans pS)).trans pS).trans (pC (((pC ((pC pR).trans pS)).trans pS).trans (pC pR)))))))) (run_callC3 call36 (cs := [.pointer (some ⟨b12, 0, none⟩), .pointer (some ⟨b18, 0, none⟩)]) rfl rfl rfl rfl) <| ?_
     rintro _ w60 ⟨rfl, es62, ck63, hmp64, hH61⟩
     have hH65 := hH61.perm (((pC ((pC ((pC pR).trans pS)).trans pS)).trans pS).trans (pC (((pC ((pC ((pC pR).trans pS)).trans pS)).trans pS).trans (pC (((pC pR).trans pS).trans (pC (((pC pR).trans pS).trans (pC pR))))))))
     refine RL.nil <| CW.region <| V (run_add e50_42 rfl (by omega)) <| mI rfl <| RL.nil <| ?_
     refine ⟨(j + 1, es62, ck63, (putK kv (r.fields.getD j.toNat field0).name (atomF a.as (r.fields.getD j.toNat field0).at_).1), (o && (atomF a.as (r.fields.getD j.toNat field0).at_).2 && !(lookK kv (r.fields.getD j.toNat field0).name).2)), ?_, fr42.u4.u4.u4.u4.u4.u1, (Hp.conv (hH65.sub (sQ (sQ sR))) (by rfl)), (congrArg I (by rfl)), ?_, ?_, ?_, ?_⟩
     ·((try dsimp only); omega)
     ·omega
     ·omega
     ·exact hmp64
     ·rw [take_snoc (d := field0) j0 ‹j < _›, List.map_append, ← List.append_assoc, all_snoc, ← Bool.and_assoc]; exact gst_next hg
    ·refine CW.exit (id := 2) rfl <| CW.seq <| CW.regionD (by kernel_rfl) hH42 <| fun w66 hH67 => have zh67 := hH67.sub sR; AT 0 rfl zh67 (fun w hS => run_ld underlying76 rfl e6_42 (hS.cell (i := 1) rfl rfl)) <| AT 1 rfl zh67 (fun w hS => run_ld underlying4 rfl e7_42 (hS.cell (i := 0) rfl (v := B _) rfl)) <| ?_
     refine AQ 2 rfl zh67 (run_assign (by conv => lhs; whnf)) ?_
     refine AQ 3 rfl zh67 (aV (B _) rfl) <| AD <| CW.ret <| out2 Tryd.results18 rfl rfl ⟨b7, es, ck, kv, o, rfl, gst_end (by show ¬ j < (r.fields.length : Int); omega) hg, hmp, (hH67.perm (((pC ((pC pR).trans pS)).trans pS).trans (pC pR))).sub (sP (sQ (sQ (sQ (sQ sR)))))⟩
  ·refine CW.skip <| CW.seq <| SR <| V (fA underlying24 0 rfl sizeOf22 rfl) <| V (run_ldV (hr.fields.sl.hp hH20) underlying22 rfl rfl (hH20.cell (i := 4) rfl rfl)) <| V (run_lenSl (hr.fields.sl.hp hH20) rfl underlying22 rfl) <| vm (v := I 0) rfl <| RL.nil <| CW.block <| CW.loop (G := Int × (Array MapEntry) × Nat × (List (Tx × El)) × Bool) (fun ⟨j, es, ck, kv, o⟩ s' w' => (Fr (rg 12 3 (rg 50 18 [])) _ s') ∧ (Hp w w' (.blk b18 (.cells (#[B o]) 4 (0, 0)) :: _ :: .blk b7 (.map es ck) :: _)) ∧ (s' 50 = I j) ∧ (0 ≤ j) ∧ (j ≤ r.fields.length) ∧ (MpIs es ck kv) ∧ (GSt (preV a.as r ++ (r.fields.take j.toNat).map (valF a.as)) (decide (r.tail < (a.as.rows.length : Int)) && (r.fields.take j.toNat).all fun f => (atomF a.as f.at_).2) o kv)) (fun ⟨j, es, ck, kv, o⟩ => (r.fields.length - j).toNat) ((0, #[], 0, [], (decide (r.tail < (a.rows.length : Int))))) ⟨Fr.refl _ _, hH20, rfl, (by omega), (by omega), mp_nil, (by exact gst_i2 (pre_3 (by omega)))⟩ <| ?_
   rintro ⟨j, es, ck, kv, o⟩ sg69 w69 ⟨fr69, hH69, e50_69, j0, jk, hmp, hg⟩
   have e3_69 := fr69.pp 3 rfl rfl
   have e6_69 := fr69.pp 6 rfl rfl
   have e7_69 := fr69.pp 7 rfl rfl
   have e8_69 := fr69.vv 8 (a := .func _ _ _) rfl rfl
   have e48_69 := (fr69 48 rfl).trans (by conv => lhs; whnf)
   have e49_69 := fr69.ii 49 rfl rfl
   refine SR <| V (run_lss e50_69 e49_69) <| RL.nil <| CW.seq <| CW.condP rfl (fun h71 => ?_) (fun h71 => ?_)
   ·refine CW.skip <| CW.seq <| CW.block <| SR <| V (run_indexAddrS (hr.fields.sl.hp hH69) underlying22 sizeOf59 e48_69 e50_69 (by omega)) <| V (run_ldE (dv := field0) fieldL_len (hr.fields.sl.hp hH69) underlying59 rfl rfl rfl (by omega)) <| RL.new rfl hH69 (f := fun b => (.pointer (some ⟨b, 0, none⟩))) (run_alloc zero_field) <| fun b74 w72 hH73 => RL.set hH73 (i := 0) rfl (run_stW (c' := (fieldL _).toArray) rfl rfl rfl (fieldL_one _) (hH73.blk (i := 0) rfl) rfl) <| fun w75 hH76 => ?_
    simp only [z2] at hH76
    refine RL.nil <| SR <| V (fA underlying59 1 rfl sizeOf35 rfl) <| V (run_ldSub (sub := atomL _) underlying35 rfl rfl rfl (hH76.blk (i := 0) rfl) (field_atB _)) <| V (run_ldA (cs := asgL _) underlying28 rfl rfl e3_69 (rangeAt_cells (hH76.blk (i := 4) rfl))) <| RL.callP rfl hH76 (c_holds_atom _ _  _ (ha.mono hH76.kw)) (run_call2 call34 rfl rfl) <| fun w77 hH78 => ?_
    refine V (run_move (by conv => lhs; whnf)) ?_
    refine V (run_extract rfl (v := .agg _) rfl) <| V (run_extract rfl (v := B _) rfl) <| RL.new rfl hH78 (f := fun b => (.pointer (some ⟨b, 0, none⟩))) (run_alloc zero_el) <| fun b82 w80 hH81 => RL.set hH81 (i := 0) rfl (run_stEl rfl rfl rfl (hH81.blk (i := 0) rfl)) <| fun w83 hH84 => ?_
    simp only [z2] at hH84
    refine aB rfl <| RL.nil <| CW.region <| vm e8_69 <| V (fA underlying59 0 rfl sizeOf9 rfl) <| V (run_ld underlying9 rfl rfl (hH84.cell (i := 1) rfl (v := .string _) rfl)) <| V (run_ldEl underlying33 rfl rfl rfl (hH84.blk (i := 0) rfl)) <| mB rfl <| RL.callT rfl (c_holds_gathered_1 _ _ b12 b18 b7 kv es ck o _ _ _ hmp _ (hH84.perm (((pC ((pC ((pC ((pC pR).trans pS)).trans pS)).trans pS)).trans pS).trans (pC (((pC ((pC pR).trans pS)).trans pS).trans (pC (((pC ((pC pR).trans pS)).trans pS).trans (pC pR)))))))) (run_callC3 call36 (cs := [.pointer (some ⟨b12, 0, none⟩), .pointer (some ⟨b18, 0, none⟩)]) rfl rfl rfl rfl) <| ?_
    rintro _ w87 ⟨rfl, es89, ck90, hmp91, hH88⟩
    have hH92 := hH88.perm (((pC ((pC ((pC pR).trans pS)).trans pS)).trans pS).trans (pC (((pC ((pC ((pC pR).trans pS)).trans pS)).trans pS).trans (pC (((pC pR).trans pS).trans (pC (((pC pR).trans pS).trans (pC pR))))))))
    refine RL.nil <| CW.region <| V (run_add e50_69 rfl (by omega)) <| mI rfl <| RL.nil <| ?_
    refine ⟨(j + 1, es89, ck90, (putK kv (r.fields.getD j.toNat field0).name (atomF a.as (r.fields.getD j.toNat field0).at_).1), (o && (atomF a.as (r.fields.getD j.toNat field0).at_).2 && !(lookK kv (r.fields.getD j.toNat field0).name).2)), ?_, fr69.u4.u4.u4.u4.u4.u1, (Hp.conv (hH92.sub (sQ (sQ sR))) (by rfl)), (congrArg I (by rfl)), ?_, ?_, ?_, ?_⟩
    ·((try dsimp only); omega)
    ·omega
    ·omega
    ·exact hmp91
    ·rw [take_snoc (d := field0) j0 ‹j < _›, List.map_append, ← List.append_assoc, all_snoc, ← Bool.and_assoc]; exact gst_next hg
   ·refine CW.exit (id := 2) rfl <| CW.seq <| CW.regionD (by kernel_rfl) hH69 <| fun w93 hH94 => have zh94 := hH94.sub sR; AT 0 rfl zh94 (fun w hS => run_ld underlying76 rfl e6_69 (hS.cell (i := 1) rfl rfl)) <| AT 1 rfl zh94 (fun w hS => run_ld underlying4 rfl e7_69 (hS.cell (i := 0) rfl (v := B _) rfl)) <| ?_
    refine AQ 2 rfl zh94 (run_assign (by conv => lhs; whnf)) ?_
    refine AQ 3 rfl zh94 (aV (B _) rfl) <| AD <| CW.ret <| out2 Tryd.results18 rfl rfl ⟨b7, es, ck, kv, o, rfl, gst_end (by show ¬ j < (r.fields.length : Int); omega) hg, hmp, (hH94.perm (((pC ((pC pR).trans pS)).trans pS).trans (pC pR))).sub (sP (sQ (sQ (sQ (sQ sR)))))⟩
 ·refine gF rfl (bF h23) <| gF rfl (bF h23) <| gF rfl (bF h23) <| V (run_pickF (bF h23) (v := B false) rfl) <| RL.nil <| CW.condF rfl <| CW.skip <| CW.seq <| SR <| V (fA underlying24 0 rfl sizeOf22 rfl) <| V (run_ldV (hr.fields.sl.hp hH20) underlying22 rfl rfl (hH20.cell (i := 4) rfl rfl)) <| V (run_lenSl (hr.fields.sl.hp hH20) rfl underlying22 rfl) <| vm (v := I 0) rfl <| RL.nil <| CW.block <| CW.loop (G := Int × (Array MapEntry) × Nat × (List (Tx × El)) × Bool) (fun ⟨j, es, ck, kv, o⟩ s' w' => (Fr (rg 12 3 (rg 50 18 [])) _ s') ∧ (Hp w w' (.blk b18 (.cells (#[B o]) 4 (0, 0)) :: _ :: .blk b7 (.map es ck) :: _)) ∧ (s' 50 = I j) ∧ (0 ≤ j) ∧ (j ≤ r.fields.length) ∧ (MpIs es ck kv) ∧ (GSt (preV a.as r ++ (r.fields.take j.toNat).map (valF a.as)) (decide (r.tail < (a.as.rows.length : Int)) && (r.fields.take j.toNat).all fun f => (atomF a.as f.at_).2) o kv)) (fun ⟨j, es, ck, kv, o⟩ => (r.fields.length - j).toNat) ((0, #[], 0, [], (decide (r.tail < (a.rows.length : Int))))) ⟨Fr.refl _ _, hH20, rfl, (by omega), (by omega), mp_nil, (by exact gst_i2 (pre_2a (by omega)))⟩ <| ?_
  rintro ⟨j, es, ck, kv, o⟩ sg96 w96 ⟨fr96, hH96, e50_96, j0, jk, hmp, hg⟩
  have e3_96 := fr96.pp 3 rfl rfl
  have e6_96 := fr96.pp 6 rfl rfl
  have e7_96 := fr96.pp 7 rfl rfl
  have e8_96 := fr96.vv 8 (a := .func _ _ _) rfl rfl
  have e48_96 := (fr96 48 rfl).trans (by conv => lhs; whnf)
  have e49_96 := fr96.ii 49 rfl rfl
  refine SR <| V (run_lss e50_96 e49_96) <| RL.nil <| CW.seq <| CW.condP rfl (fun h98 => ?_) (fun h98 => ?_)
  ·refine CW.skip <| CW.seq <| CW.block <| SR <| V (run_indexAddrS (hr.fields.sl.hp hH96) underlying22 sizeOf59 e48_96 e50_96 (by omega)) <| V (run_ldE (dv := field0) fieldL_len (hr.fields.sl.hp hH96) underlying59 rfl rfl rfl (by omega)) <| RL.new rfl hH96 (f := fun b => (.pointer (some ⟨b, 0, none⟩))) (run_alloc zero_field) <| fun b101 w99 hH100 => RL.set hH100 (i := 0) rfl (run_stW (c' := (fieldL _).toArray) rfl rfl rfl (fieldL_one _) (hH100.blk (i := 0) rfl) rfl) <| fun w102 hH103 => ?_
   simp only [z2] at hH103
   refine RL.nil <| SR <| V (fA underlying59 1 rfl sizeOf35 rfl) <| V (run_ldSub (sub := atomL _) underlying35 rfl rfl rfl (hH103.blk (i := 0) rfl) (field_atB _)) <| V (run_ldA (cs := asgL _) underlying28 rfl rfl e3_96 (rangeAt_cells (hH103.blk (i := 4) rfl))) <| RL.callP rfl hH103 (c_holds_atom _ _  _ (ha.mono hH103.kw)) (run_call2 call34 rfl rfl) <| fun w104 hH105 => ?_
   refine V (run_move (by conv => lhs; whnf)) ?_
   refine V (run_extract rfl (v := .agg _) rfl) <| V (run_extract rfl (v := B _) rfl) <| RL.new rfl hH105 (f := fun b => (.pointer (some ⟨b, 0, none⟩))) (run_alloc zero_el) <| fun b109 w107 hH108 => RL.set hH108 (i := 0) rfl (run_stEl rfl rfl rfl (hH108.blk (i := 0) rfl)) <| fun w110 hH111 => ?_
   simp only [z2] at hH111
   refine aB rfl <| RL.nil <| CW.region <| vm e8_96 <| V (fA underlying59 0 rfl sizeOf9 rfl) <| V (run_ld underlying9 rfl rfl (hH111.cell (i := 1) rfl (v := .string _) rfl)) <| V (run_ldEl underlying33 rfl rfl rfl (hH111.blk (i := 0) rfl)) <| mB rfl <| RL.callT rfl (c_holds_gathered_1 _ _ b12 b18 b7 kv es ck o _ _ _ hmp _ (hH111.perm (((pC ((pC ((pC ((pC pR).trans pS)).trans pS)).trans pS)).trans pS).trans (pC (((pC ((pC pR).trans pS)).trans pS).trans (pC (((pC ((pC pR).trans pS)).trans pS).trans (pC pR)))))))) (run_callC3 call36 (cs := [.pointer (some ⟨b12, 0, none⟩), .pointer (some ⟨b18, 0, none⟩)]) rfl rfl rfl rfl) <| ?_
   rintro _ w114 ⟨rfl, es116, ck117, hmp118, hH115⟩
   have hH119 := hH115.perm (((pC ((pC ((pC pR).trans pS)).trans pS)).trans pS).trans (pC (((pC ((pC ((pC pR).trans pS)).trans pS)).trans pS).trans (pC (((pC pR).trans pS).trans (pC (((pC pR).trans pS).trans (pC pR))))))))
   refine RL.nil <| CW.region <| V (run_add e50_96 rfl (by omega)) <| mI rfl <| RL.nil <| ?_
   refine ⟨(j + 1, es116, ck117, (putK kv (r.fields.getD j.toNat field0).name (atomF a.as (r.fields.getD j.toNat field0).at_).1), (o && (atomF a.as (r.fields.getD j.toNat field0).at_).2 && !(lookK kv (r.fields.getD j.toNat field0).name).2)), ?_, fr96.u4.u4.u4.u4.u4.u1, (Hp.conv (hH119.sub (sQ (sQ sR))) (by rfl)), (congrArg I (by rfl)), ?_, ?_, ?_, ?_⟩
   ·((try dsimp only); omega)
   ·omega
   ·omega
   ·exact hmp118
   ·rw [take_snoc (d := field0) j0 ‹j < _›, List.map_append, ← List.append_assoc, all_snoc, ← Bool.and_assoc]; exact gst_next hg
  ·refine CW.exit (id := 2) rfl <| CW.seq <| CW.regionD (by kernel_rfl) hH96 <| fun w120 hH121 => have zh121 := hH121.sub sR; AT 0 rfl zh121 (fun w hS => run_ld underlying76 rfl e6_96 (hS.cell (i := 1) rfl rfl)) <| AT 1 rfl zh121 (fun w hS => run_ld underlying4 rfl e7_96 (hS.cell (i := 0) rfl (v := B _) rfl)) <| ?_
   refine AQ 2 rfl zh121 (run_assign (by conv => lhs; whnf)) ?_
   refine AQ 3 rfl zh121 (aV (B _) rfl) <| AD <| CW.ret <| out2 Tryd.results18 rfl rfl ⟨b7, es, ck, kv, o, rfl, gst_end (by show ¬ j < (r.fields.length : Int); omega) hg, hmp, (hH121.perm (((pC ((pC pR).trans pS)).trans pS).trans (pC pR))).sub (sP (sQ (sQ (sQ (sQ sR)))))⟩
set_option maxHeartbeats 1000000 in
theorem c_holds_Row (K : Vu) (r : RowR) (a : Asg) (hrl : ∀ x ∈ a.rows, x.l.length ≤ 1000) (hfl : r.fields.length ≤ 1000) (w : World) (hK : Le K (Kw w)) (hr : RowV K r) (ha : AsgV K a) : Calls Tryd.prog 8 #[.agg (rtmL r).toArray, .agg (asgL a).toArray] w (PureF K (fun K' u => ∃ v' : Value, u = .tuple #[v', B (rowM a.as r).2] ∧ SlV K' v' 9 (rowM a.as r).1.length ((rowM a.as r).1.flatMap valL)) w) := by
 have hm1 := ha.labels.small
 have hm2 := ha.rows.small
 have hm3 := hr.fields.small
 unfold maxLen at hm1 hm2 hm3
 refine enter Tryd.func8 rfl Tryd.ntmps8 rfl <| have hH := Hp.start w; SR <| RL.new rfl hH (f := fun b => (.pointer (some ⟨b, 0, none⟩))) (run_box (v := .agg _) rfl) <| fun b3 w1 hH2 => RL.new rfl hH2 (f := fun b => (.pointer (some ⟨b, 0, none⟩))) (run_box (v := .agg _) rfl) <| fun b6 w4 hH5 => va (v := .slice none 0 0) rfl <| va (v := B false) rfl <| RL.nil <| SR <| V (run_ldA (cs := rtmL _) underlying24 rfl rfl rfl (rangeAt_cells (hH5.blk (i := 1) rfl))) <| V (run_ldA (cs := asgL _) underlying28 rfl rfl rfl (rangeAt_cells (hH5.blk (i := 0) rfl))) <| RL.callT rfl (c_holds_gathered _ _  _ ((hr.mono hK).mono hH5.kw) ((ha.mono hK).mono hH5.kw)) (run_call2 call18 rfl rfl) <| ?_
 rintro _ w9 ⟨bm11, es12, ck13, kv14, o15, rfl, hgk16, hmp17, hz18⟩
 have hH19 := Hp.callZ hH5 hz18
 simp only [List.cons_append, List.nil_append] at hH19
 refine V (run_move (by conv => lhs; whnf)) ?_
 refine V (run_extract rfl rfl) <| V (run_extract rfl (v := B _) rfl) <| ?_
 refine V (run_assign (by conv => lhs; whnf)) ?_
 refine aB rfl <| RL.nil <| CW.seq <| SR <| mB rfl <| V (run_not rfl) <| RL.nil <| CW.cond rfl (fun h22 => ?_) (fun h22 => ?_)
 ·refine SR <| va (v := .slice none 0 0) rfl <| va (v := B false) rfl <| RL.nil <| CW.ret <| have hrm := rw_no (a := a.as) (t := r) (by rw [← hgk16.1]; exact nt ‹(!o15) = true›); out2 Tryd.results8 (x := .slice none 0 0) (y := B false) rfl rfl ⟨[], (hH19.sub (sQ (sQ (sQ sR)))), .slice none 0 0, ?_, ?_⟩
  ·rw [hrm]
  ·rw [hrm]; exact SlV.nil _ _
 ·refine CW.skip <| SR <| va (v := .slice none 0 0) rfl <| have hH23 := hH19.nilRow 9 1; RL.nil <| CW.seq <| SR <| ?_
  refine V (run_move (by conv => lhs; whnf)) ?_
  refine RL.new rfl hH23 (f := fun b => .pointer (some ⟨b, 0, none⟩)) (run_range underlying76 rfl (hH23.blk (i := 1) rfl)) <| fun b24 w25 hH26 => RL.nil <| CW.block <| have hes : es12.size ≤ 2000 := (by rw [hmp17.size, hgk16.2 (nf ‹(!o15) = false›), List.length_map]; exact allV_len hrl hfl); CW.loop (G := (Array Nat) × Nat × (List Tx) × Value) (fun ⟨seen, c0, ns, v8⟩ s' w' => (Fr (8 :: 9 :: (rg 23 8 [])) _ s') ∧ (Hp w w' (.blk b24 (.mapIter (some bm11) ck13 seen c0) :: .row v8 9 1 (ns.length) (txL ns) :: _)) ∧ (s' 8 = v8) ∧ (ck13 ≤ c0) ∧ (Seen es12 kv14 seen ns)) (fun ⟨seen, c0, ns, v8⟩ => (leftOf es12 seen).size) ((#[], ck13, [], (.slice none 0 0 : Value))) ⟨Fr.refl _ _, hH26, rfl, Nat.le_refl _, seen_0⟩ <| ?_
  rintro ⟨seen, c0, ns, v8⟩ sg27 w27 ⟨fr27, hH27, e8_27, hc, hse⟩
  have e4_27 := (fr27 4 rfl).trans (by conv => lhs; whnf)
  have e5_27 := fr27.bb 5 rfl rfl
  have e6_27 := (fr27 6 rfl).trans (by conv => lhs; whnf)
  have e22_27 := (fr27 22 rfl).trans (by conv => lhs; whnf)
  have hsz := hse.2.2
  refine SR <| RL.nextM rfl hH27 (i := 0) rfl (hH27.blk (i := 2) rfl) hmp17 hc e22_27 (fun hz28 => ?_) (fun e29 q30 he31 hq32 hk33 hv34 w35 hH36 => ?_)
  ·refine V (run_extract rfl (v := B _) rfl) <| RL.nil <| CW.seq <| CW.condF rfl <| CW.exit (id := 0) rfl <| SR <| va (v := .slice none 0 0) rfl <| have hH38 := hH27.nilRow 61 9; RL.nil <| CW.seq <| SR <| vm e8_27 <| RL.callR rfl hH38 (c_name_Sort _ ns (by omega) _ (hH38.sl (i := 2) rfl)) (run_call1 call19 rfl) <| fun v41 w39 hH40 => V (run_lenSl (hH40.sl (i := 0) rfl) rfl underlying62 rfl) <| vm (v := I 0) rfl <| RL.nil <| CW.block <| have hsl := sort_len ns; CW.loop (G := Int × (List ValR) × Value) (fun ⟨k, m2, v10⟩ s' w' => (Fr (10 :: (12 :: (rg 34 13 []))) _ s') ∧ (Hp w w' (_ :: .row v10 61 9 (m2.length) (m2.flatMap valL) :: _)) ∧ (s' 10 = v10) ∧ (s' 34 = I k) ∧ (0 ≤ k) ∧ (k ≤ (sortN ns).length) ∧ (m2 = laidTo (sortN ns) kv14 k) ∧ ((m2.length : Int) = k)) (fun ⟨k, m2, v10⟩ => ((sortN ns).length - k).toNat) ((0, [], (.slice none 0 0 : Value))) ⟨Fr.refl _ _, hH40, rfl, rfl, (by omega), (by omega), rfl, rfl⟩ <| ?_
   rintro ⟨k, m2, v10⟩ sg42 w42 ⟨fr42, hH42, e10_42, e34_42, h0, hk, hm2, hml⟩
   have e6_42 := (fr42 6 rfl).trans e6_27
   have e32_42 := (fr42 32 rfl).trans (by conv => lhs; whnf)
   have e33_42 := fr42.ii 33 rfl rfl
   refine SR <| V (run_lss e34_42 e33_42) <| RL.nil <| CW.seq <| CW.condP rfl (fun h44 => ?_) (fun h44 => ?_)
   ·refine CW.skip <| CW.seq <| CW.block <| SR <| V (run_indexAddrS (hH42.sl (i := 0) rfl) underlying62 sizeOf9 e32_42 e34_42 (by omega)) <| V (run_ld underlying9 rfl rfl ((hH42.sl (i := 0) rfl).cell _ _ (txL_at (by omega)))) <| va (v := .string _) rfl <| RL.nil <| CW.region <| vm e10_42 <| vm (v := .string _) rfl <| vm e6_42 <| vm (v := .string _) rfl <| V (run_lookup1 underlying76 underlying9 zero_el rfl rfl (hH42.blk (i := 4) rfl) hmp17) <| V (run_bld (vs := [(0, S _), (1, .agg (elC _))]) rfl (built_val _ _)) <| RL.new rfl hH42 (f := fun b => (.slice (some ⟨b, 0, none⟩) 1 1)) (run_mkRecs valL_len underlying40 rfl rfl rfl (l := [_]) rfl (by decide) (by decide) rfl) <| fun b47 w45 hH46 => RL.app rfl hH46 (i := 2) rfl (Hp.slFlat valL_len hH46 (i := 0) (l := [_]) rfl (by simp [maxLen])) rfl rfl underlying40 rfl rfl (size := 9) (bytes := 80) rfl rfl rfl (by decide) (vals_one _) (by simp only [List.length_cons, List.length_nil]; omega) (by simp only [maxLen, List.length_cons, List.length_nil]; omega) <| fun v48 w49 hH50 => ?_
    simp only [z2] at hH50
    refine V (run_assign (by conv => lhs; whnf)) ?_
    refine RL.nil <| CW.region <| V (run_add e34_42 rfl (by omega)) <| mI rfl <| RL.nil <| ?_
    refine ⟨(k + 1, m2 ++ [⟨(sortN ns).getD k.toNat tx0, (lookK kv14 ((sortN ns).getD k.toNat tx0)).1⟩], v48), ?_, fr42.u4.u4.u4.u1.u1.u1, (Hp.conv (hH50.sub (sQ sR)) (by simp)), rfl, (congrArg I (by rfl)), ?_, ?_, ?_, ?_⟩
    ·((try dsimp only); omega)
    ·omega
    ·omega
    ·(rw [laid_next h0 ‹k < _›, ← hm2])
    ·simp only [List.length_append, List.length_singleton]; omega
   ·refine CW.exit (id := 2) rfl <| SR <| vm e10_42 <| ?_
    refine V (run_assign (by conv => lhs; whnf)) ?_
    refine va (v := B true) rfl <| RL.nil <| CW.ret <| ?_
    obtain ⟨Z51, hz52, hv53, -⟩ := (hH42.perm (((pC pR).trans pS).trans (pC pR))).frz (K)
    have hH54 : Hp _ w42 (_ :: _ :: _ :: _ :: _ :: _ :: Z51) := hz52.zin0 (L := [_, _, _, _, _, _])
    have hrm := rm_yes hgk16.1 (nf ‹(!o15) = false›) hgk16.2 (seen_all hmp17 hse hz28)
    refine out2 Tryd.results8 (x := v10) rfl rfl ⟨Z51, (hH54.sub (sQ (sQ (sQ (sQ (sQ (sQ sR))))))), v10, ?_, ?_⟩
    ·(rw [hrm]; rfl)
    ·rw [hrm, ← laid_all ‹¬ k < _›, ← hm2]; exact hv53
  ·simp only [z2] at hH36
   refine V (run_extract rfl (v := B _) rfl) <| RL.nil <| CW.seq <| CW.condT rfl <| CW.skip <| CW.block <| SR <| V (run_entry (hH36.blk (i := 0) rfl) (hH36.blk (i := 2) rfl) hmp17 he31 hk33 hv34 e22_27) <| V (run_extract rfl (v := .string _) rfl) <| va (v := .string _) rfl <| RL.nil <| CW.region <| vm e8_27 <| vm (v := .string _) rfl <| RL.new rfl hH36 (f := fun b => (.slice (some ⟨b, 0, none⟩) 1 1)) (run_mkL underlying62 rfl rfl (sz := 1) (vs := [.string _]) rfl rfl (by decide) (by decide) rfl rfl) <| fun b58 w56 hH57 => ?_
   (try simp only [clX] at hH57)
   refine RL.app rfl hH57 (i := 2) rfl (hH57.slBlk (i := 0) (n := 1) (sz := 1) rfl rfl (by decide)) rfl rfl underlying62 rfl rfl (size := 1) (bytes := 16) rfl rfl rfl (by decide) (by simp [Value.oneCell']) (by have := left_pos ‹_›; show (ns.length + 1) * _ ≤ _; omega) (by have := left_pos ‹_›; show ns.length + 1 ≤ _; simp only [maxLen]; omega) <| fun v59 w60 hH61 => ?_
   simp only [z2] at hH61
   refine V (run_assign (by conv => lhs; whnf)) ?_
   refine RL.nil ?_
   refine ⟨((seen.push e29.born), ck13, ns ++ [q30.1], v59), ?_, fr27.u4.u4.u1.u1, (Hp.conv (hH61.sub (sQ sR)) (by simp)), rfl, ?_, ?_⟩
   ·exact (seen_next hmp17.born hse he31 hq32 hk33).2
   ·exact Nat.le_refl _
   ·exact (seen_next hmp17.born hse he31 hq32 hk33).1
theorem c_holds_equal (x : AssR) (a : Asg) (hx2 : AssSm x) (ha2 : AsgSm a) (w : World) (hx : AssV (Kw w) x) (ha : AsgV (Kw w) a) : Calls Tryd.prog 32 #[.agg (assL x).toArray, .agg (asgL a).toArray] w (Pure (B ((rowM a.as x.a).2 && (rowM a.as x.b).2 && sameL (rowM a.as x.a).1 (rowM a.as x.b).1)) w) := by
 have hm1 := ha.labels.small
 have hm2 := ha.rows.small
 have hm3 := hx.code.small
 unfold maxLen at hm1 hm2 hm3
 refine enter Tryd.func32 rfl Tryd.ntmps32 rfl <| have hH := Hp.start w; SR <| RL.new rfl hH (f := fun b => (.pointer (some ⟨b, 0, none⟩))) (run_box (v := .agg _) rfl) <| fun b3 w1 hH2 => RL.new rfl hH2 (f := fun b => (.pointer (some ⟨b, 0, none⟩))) (run_box (v := .agg _) rfl) <| fun b6 w4 hH5 => va (v := B false) rfl <| RL.nil <| SR <| V (fA underlying37 12 rfl sizeOf24 rfl) <| V (run_ldSub (sub := rtmL _) underlying24 rfl rfl rfl (hH5.blk (i := 1) rfl) (ass_aB _)) <| V (run_ldA (cs := asgL _) underlying28 rfl rfl rfl (rangeAt_cells (hH5.blk (i := 0) rfl))) <| RL.callF rfl hH5 (c_holds_Row (Kw w) x.a a ha2.rl hx2.fa _ hH5.kw hx.a ha) (run_call2 call8 rfl rfl) <| fun v9 w10 Z12 hH11 hp13 => have hH14 : Hp _ w10 (_ :: _ :: Z12) := hH11.zin0 (L := [_, _]); ?_
 obtain ⟨v15, rfl, hv16⟩ := hp13
 refine V (run_move (by conv => lhs; whnf)) ?_
 refine V (run_extract rfl rfl) <| V (run_extract rfl (v := B _) rfl) <| ?_
 refine V (run_assign (by conv => lhs; whnf)) ?_
 refine aB rfl <| RL.nil <| SR <| V (fA underlying37 14 rfl sizeOf24 rfl) <| V (run_ldSub (sub := rtmL _) underlying24 rfl rfl rfl (hH14.blk (i := 1) rfl) (ass_bB _)) <| V (run_ldA (cs := asgL _) underlying28 rfl rfl rfl (rangeAt_cells (hH14.blk (i := 0) rfl))) <| RL.callF rfl hH14 (c_holds_Row (Kw w) x.b a ha2.rl hx2.fb _ hH14.kw hx.b ha) (run_call2 call8 rfl rfl) <| fun v20 w21 Z23 hH22 hp24 => have hH25 : Hp _ w21 (_ :: _ :: (Z23 ++ Z12)) := hH22.zin (L := [_, _]) (L' := Z12); ?_
 obtain ⟨v26, rfl, hv27⟩ := hp24
 refine V (run_move (by conv => lhs; whnf)) ?_
 refine V (run_extract rfl rfl) <| V (run_extract rfl (v := B _) rfl) <| ?_
 refine V (run_assign (by conv => lhs; whnf)) ?_
 refine aB rfl <| RL.nil <| CW.seq <| SR <| mB rfl <| V (run_not rfl) <| mB rfl <| RL.split (dj := 26) rfl (fun h30 => ?_) (fun h30 => ?_)
 ·refine gF rfl (bR (c := true) h30) <| gF rfl (bR (c := true) h30) <| V (run_pickT (bR (c := true) h30) (v := B true) rfl) <| mB rfl <| gF rfl rfl <| gF rfl rfl <| gF rfl rfl <| gF rfl rfl <| gF rfl rfl <| V (run_pickT rfl (v := B true) rfl) <| RL.nil <| CW.condT rfl <| SR <| va (v := B false) rfl <| RL.nil <| CW.ret <| outP1 Tryd.results32 (congrArg B ?_) hH25.below
  (rw [nt ‹(!(rowM a.as x.a).2) = true›]; rfl)
 ·refine gT rfl (bR (c := false) h30) <| mB rfl <| gT rfl (bR (c := false) h30) <| V (run_not rfl) <| V (run_pickF (bR (c := false) h30) (v := B _) rfl) <| mB rfl <| RL.split (dj := 30) rfl (fun h32 => ?_) (fun h32 => ?_)
  ·refine gF rfl (bR (c := true) h32) <| gF rfl (bR (c := true) h32) <| gF rfl (bR (c := true) h32) <| gF rfl (bR (c := true) h32) <| gF rfl (bR (c := true) h32) <| V (run_pickT (bR (c := true) h32) (v := B true) rfl) <| RL.nil <| CW.condT rfl <| SR <| va (v := B false) rfl <| RL.nil <| CW.ret <| outP1 Tryd.results32 (congrArg B ?_) hH25.below
   (rw [nt ‹(!(rowM a.as x.b).2) = true›]; simp; done)
  ·refine gT rfl (bR (c := false) h32) ?_
   refine V (run_move (by conv => lhs; whnf)) ?_
   refine gT rfl (bR (c := false) h32) <| V (run_lenSl (hv16.mono (hH25.kz (Le.refl _) (fun x hx => (mT (mT (List.mem_append_right _ hx)))))).sl rfl underlying40 rfl) <| gT rfl (bR (c := false) h32) <| ?_
   refine V (run_move (by conv => lhs; whnf)) ?_
   refine gT rfl (bR (c := false) h32) <| V (run_lenSl (hv27.mono (hH25.kz (Le.refl _) (fun x hx => (mT (mT (List.mem_append_left _ hx)))))).sl rfl underlying40 rfl) <| gT rfl (bR (c := false) h32) <| V (run_neq rfl rfl) <| V (run_pickF (bR (c := false) h32) (v := B _) rfl) <| RL.nil <| CW.condP rfl (fun h34 => ?_) (fun h34 => ?_)
   ·refine SR <| va (v := B false) rfl <| RL.nil <| CW.ret <| outP1 Tryd.results32 (congrArg B ?_) hH25.below
    (rw [sameL_no1 ‹_›]; simp; done)
   ·refine CW.skip <| CW.seq <| SR <| ?_
    refine V (run_move (by conv => lhs; whnf)) ?_
    refine V (run_lenSl (hv16.mono (hH25.kz (Le.refl _) (fun x hx => (mT (mT (List.mem_append_right _ hx)))))).sl rfl underlying40 rfl) <| vm (v := I 0) rfl <| RL.nil <| CW.block <| have hlm : ((rowM a.as x.a).1.length : Int) = (rowM a.as x.b).1.length := (by omega); have hls : ((rowM a.as x.a).1.length : Int) ≤ 2000 := (by have := rowM_len ha2.rl hx2.fa; omega); CW.loop (G := Int) (fun k s' w' => (Fr (4 :: (9 :: (rg 39 13 []))) _ s') ∧ (Hp w w' _) ∧ (s' 39 = I k) ∧ (0 ≤ k) ∧ (k ≤ (rowM a.as x.a).1.length) ∧ (∀ i : Int, 0 ≤ i → i < k → sameV ((rowM a.as x.a).1.getD i.toNat val0) ((rowM a.as x.b).1.getD i.toNat val0) = true)) (fun k => ((rowM a.as x.a).1.length - k).toNat) (0) ⟨Fr.refl _ _, hH25, rfl, (by omega), (by omega), fun j a b => absurd b (by omega)⟩ <| ?_
    rintro k sg35 w35 ⟨fr35, hH35, e39_35, h0, hk, hq⟩
    have e5_35 := (fr35 5 rfl).trans (by conv => lhs; whnf)
    have e7_35 := (fr35 7 rfl).trans (by conv => lhs; whnf)
    have e38_35 := fr35.ii 38 rfl rfl
    refine SR <| V (run_lss e39_35 e38_35) <| RL.nil <| CW.seq <| CW.condP rfl (fun h37 => ?_) (fun h37 => ?_)
    ·refine CW.skip <| CW.seq <| CW.block <| SR <| vm e39_35 <| aI rfl <| RL.nil <| CW.seq <| CW.regionD (by kernel_rfl) hH35 <| fun w38 hH39 => have zh39 := hH39.sub sR; AQ 0 rfl zh39 (run_move e5_35) <| AQ 1 rfl zh39 (mV (I _) rfl) <| AT 2 rfl zh39 (fun w hS => run_indexAddrS (hv16.mono (hS.kz (Le.refl _) (fun x hx => (mT (mT (List.mem_append_right _ hx)))))).sl underlying40 sizeOf61 rfl rfl (by omega)) <| AT 3 rfl zh39 (fun w hS => run_ldE (dv := val0) valL_len (hv16.mono (hS.kz (Le.refl _) (fun x hx => (mT (mT (List.mem_append_right _ hx)))))).sl underlying61 rfl rfl rfl (by omega)) <| AQ 4 rfl zh39 (run_move e7_35) <| AQ 5 rfl zh39 (mV (I _) rfl) <| AT 6 rfl zh39 (fun w hS => run_indexAddrS (hv27.mono (hS.kz (Le.refl _) (fun x hx => (mT (mT (List.mem_append_left _ hx)))))).sl underlying40 sizeOf61 rfl rfl (by omega)) <| AT 7 rfl zh39 (fun w hS => run_ldE (dv := val0) valL_len (hv27.mono (hS.kz (Le.refl _) (fun x hx => (mT (mT (List.mem_append_left _ hx)))))).sl underlying61 rfl rfl rfl (by omega)) <| AQ 8 rfl zh39 (run_neqT (eq_val _ _) rfl rfl) <| AD <| CW.cond rfl (fun h41 => ?_) (fun h41 => ?_)
     ·refine SR <| va (v := B false) rfl <| RL.nil <| CW.ret <| outP1 Tryd.results32 (congrArg B ?_) hH39.below
      (rw [sameL_no2 h0 ‹k < _› (nt ‹(!sameV _ _) = true›)]; simp; done)
     ·refine CW.skip <| CW.region <| V (run_add e39_35 rfl (by omega)) <| mI rfl <| RL.nil <| ?_
      refine ⟨k + 1, ?_, fr35.u4.u4.u4.u1.u1, hH39, (congrArg I (by rfl)), ?_, ?_, ?_⟩
      ·((try dsimp only); omega)
      ·omega
      ·omega
      ·exact fun i u v => if e : i = k then e ▸ nf ‹(!sameV _ _) = false› else hq i u (by omega)
    ·refine CW.exit (id := 0) rfl <| SR <| va (v := B true) rfl <| RL.nil <| CW.ret <| outP1 Tryd.results32 (congrArg B ?_) hH35.below
     (rw [nf ‹(!(rowM a.as x.a).2) = false›, nf ‹(!(rowM a.as x.b).2) = false›, sameL_yes hlm ‹¬ k < _› hq]; rfl)
set_option maxHeartbeats 1000000 in
theorem c_holds_One (s : Scp) (x : AssR) (a : Asg) (hx2 : AssSm x) (ha2 : AsgSm a) (w : World) (hs : ScpV (Kw w) s) (hx : AssV (Kw w) x) (ha : AsgV (Kw w) a) (hT : Tab w) : Calls Tryd.prog 15 #[.agg (scpC s), .agg (assL x).toArray, .agg (asgL a).toArray] w (Pure (B (oneF s a.as x)) w) := by
 have hm1 := hs.lats.sl.small
 have hm2 := hs.vars.sl.small
 unfold maxLen at hm1 hm2
 have hm3 := ha.labels.small
 have hm4 := ha.rows.small
 have hm5 := hx.code.small
 unfold maxLen at hm3 hm4 hm5
 have hcl := hx2.c
 refine enter Tryd.func15 rfl Tryd.ntmps15 rfl <| have hH := Hp.start w; SR <| RL.new rfl hH (f := fun b => (.pointer (some ⟨b, 0, none⟩))) (run_box (v := .agg _) rfl) <| fun b3 w1 hH2 => RL.new rfl hH2 (f := fun b => (.pointer (some ⟨b, 0, none⟩))) (run_box (v := .agg _) rfl) <| fun b6 w4 hH5 => RL.new rfl hH5 (f := fun b => (.pointer (some ⟨b, 0, none⟩))) (run_box (v := .agg _) rfl) <| fun b9 w7 hH8 => va (v := B false) rfl <| RL.nil <| CW.seq <| SR <| V (fA underlying37 0 rfl sizeOf3 rfl) <| V (run_ld underlying3 rfl rfl (hH8.cell (i := 1) rfl (v := I _) rfl)) <| RL.nil <| CW.block <| SR <| V (run_eql rfl rfl) <| aB rfl <| RL.nil <| CW.condP rfl (fun h11 => ?_) (fun h11 => ?_)
 ·refine CW.seq <| SR <| V (fA underlying37 16 rfl sizeOf3 rfl) <| V (run_ld underlying3 rfl rfl (hH8.cell (i := 1) rfl (v := I _) rfl)) <| V (run_lss rfl rfl) <| mB rfl <| RL.splitP (dj := 20) rfl (fun h13 => ?_) (fun h13 => ?_)
  ·refine gF rfl (bT h13) <| gF rfl (bT h13) <| gF rfl (bT h13) <| gF rfl (bT h13) <| gF rfl (bT h13) <| gF rfl (bT h13) <| V (run_pickT (bT h13) (v := B true) rfl) <| RL.nil <| CW.condT rfl <| SR <| va (v := B false) rfl <| RL.nil <| CW.ret <| outP1 Tryd.results15 (congrArg B ?_) hH8.below
   (rw [one_10a ‹x.op = 10› (show ¬ (0 ≤ x.var ∧ x.var < a.as.rows.length) by rw [as_rows_len]; omega)]; done)
  ·refine gT rfl (bF h13) <| V (fA underlying37 16 rfl sizeOf3 rfl) <| gT rfl (bF h13) <| V (run_ld underlying3 rfl rfl (hH8.cell (i := 1) rfl (v := I _) rfl)) <| gT rfl (bF h13) <| V (fA underlying28 1 rfl sizeOf26 rfl) <| gT rfl (bF h13) <| V (run_ldV (ha.rows.sl.hp hH8) underlying26 rfl rfl (hH8.cell (i := 0) rfl rfl)) <| gT rfl (bF h13) <| V (run_lenSl (ha.rows.sl.hp hH8) rfl underlying26 rfl) <| gT rfl (bF h13) <| V (run_geq rfl rfl) <| V (run_pickF (bF h13) (v := B _) rfl) <| RL.nil <| CW.condP rfl (fun h15 => ?_) (fun h15 => ?_)
   ·refine SR <| va (v := B false) rfl <| RL.nil <| CW.ret <| outP1 Tryd.results15 (congrArg B ?_) hH8.below
    (rw [one_10a ‹x.op = 10› (show ¬ (0 ≤ x.var ∧ x.var < a.as.rows.length) by rw [as_rows_len]; omega)]; done)
   ·refine CW.skip <| CW.seq <| CW.regionD (by kernel_rfl) hH8 <| fun w16 hH17 => have zh17 := hH17.sub sR; AQ 0 rfl zh17 (fA underlying28 1 rfl sizeOf26 rfl) <| AT 1 rfl zh17 (fun w hS => run_ldV (ha.rows.sl.hp hS) underlying26 rfl rfl (hS.cell (i := 0) rfl rfl)) <| AQ 2 rfl zh17 (fA underlying37 16 rfl sizeOf3 rfl) <| AT 3 rfl zh17 (fun w hS => run_ld underlying3 rfl rfl (hS.cell (i := 1) rfl (v := I _) rfl)) <| AT 4 rfl zh17 (fun w hS => run_indexAddrS (ha.rows.sl.hp hS) underlying26 sizeOf40 rfl rfl (by omega)) <| AT 5 rfl zh17 (fun w hS => run_ld underlying40 rfl rfl ((ha.rows.sl.hp hS).cell _ _ (rowsC_at (by omega)))) <| AQ 6 rfl zh17 (fA underlying37 17 rfl sizeOf9 rfl) <| AT 7 rfl zh17 (fun w hS => run_ld underlying9 rfl rfl (hS.cell (i := 1) rfl (v := .string _) rfl)) <| AN.two 8 12 (by kernel_rfl) ?_ ?_
    ·refine AO.callP rfl gnone rfl hH17 sR (c_assign_Get _ _ _  _ ((ha.at (by omega) (by omega)).sl.hp hH17)) (run_call2 call31 rfl rfl) <| fun w18 hH19 => have zh19 := hH19.sub sR; ?_
     refine AQ 9 rfl zh19 (run_move (by conv => lhs; whnf)) ?_
     refine AQ 10 rfl zh19 (run_extract rfl (v := .agg _) rfl) <| AQ 11 rfl zh19 (run_extract rfl (v := B _) rfl) <| A1 12 <| AO.new rfl gnone rfl hH19 sR (f := fun b => .pointer (some ⟨b, 0, none⟩)) (run_alloc zero_el) <| fun b23 w21 hH22 => A1 13 <| AO.set rfl gnone hH22 (j := 0) rfl (sQ sR) (run_stEl rfl rfl rfl (hH22.blk (i := 0) rfl)) <| fun w26 hH27 => ?_
     simp only [z2] at hH27
     refine AQ 14 rfl (hH27.sub (sQ sR)) (aV (B _) rfl) <| AD <| SR <| mB rfl <| V (run_not rfl) <| aB rfl <| RL.nil <| CW.ret <| outP1 Tryd.results15 (congrArg B ?_) hH27.below
     (rw [one_10 ‹x.op = 10› (show 0 ≤ x.var ∧ x.var < a.as.rows.length by rw [as_rows_len]; omega), as_row]; done)
    ·refine AO.new rfl gnone rfl hH17 sR (f := fun b => .pointer (some ⟨b, 0, none⟩)) (run_alloc zero_el) <| fun b30 w28 hH29 => A1 8 <| AO.callP rfl gnone rfl hH29 (sQ sR) (c_assign_Get _ _ _  _ ((ha.at (by omega) (by omega)).sl.hp hH29)) (run_call2 call31 rfl rfl) <| fun w31 hH32 => have zh32 := hH32.sub (sQ sR); ?_
     refine AQ 9 rfl zh32 (run_move (by conv => lhs; whnf)) ?_
     refine AQ 10 rfl zh32 (run_extract rfl (v := .agg _) rfl) <| AQ 11 rfl zh32 (run_extract rfl (v := B _) rfl) <| A1 13 <| AO.set rfl gnone hH32 (j := 0) rfl (sQ sR) (run_stEl rfl rfl rfl (hH32.blk (i := 0) rfl)) <| fun w36 hH37 => ?_
     simp only [z2] at hH37
     refine AQ 14 rfl (hH37.sub (sQ sR)) (aV (B _) rfl) <| AD <| SR <| mB rfl <| V (run_not rfl) <| aB rfl <| RL.nil <| CW.ret <| outP1 Tryd.results15 (congrArg B ?_) hH37.below
     (rw [one_10 ‹x.op = 10› (show 0 ≤ x.var ∧ x.var < a.as.rows.length by rw [as_rows_len]; omega), as_row]; done)
 ·refine SR <| V (run_eql rfl rfl) <| aB rfl <| RL.nil <| CW.condP rfl (fun h39 => ?_) (fun h39 => ?_)
  ·refine SR <| V (run_ldA (cs := assL _) underlying37 rfl rfl rfl (rangeAt_cells (hH8.blk (i := 1) rfl))) <| V (run_ldA (cs := asgL _) underlying28 rfl rfl rfl (rangeAt_cells (hH8.blk (i := 0) rfl))) <| RL.callP rfl hH8 (c_holds_equal _ _ (hx2) (ha2) _ (hx.mono hH8.kw) (ha.mono hH8.kw)) (run_call2 call32 rfl rfl) <| fun w40 hH41 => aB rfl <| RL.nil <| CW.ret <| outP1 Tryd.results15 (congrArg B ?_) hH41.below
   (rw [one_9 ‹x.op = 9›]; done)
  ·refine SR <| V (run_eql rfl rfl) <| aB rfl <| RL.nil <| CW.condP rfl (fun h44 => ?_) (fun h44 => ?_)
   ·refine CW.seq <| SR <| V (fA underlying37 1 rfl sizeOf3 rfl) <| V (run_ld underlying3 rfl rfl (hH8.cell (i := 1) rfl (v := I _) rfl)) <| V (run_lss rfl rfl) <| mB rfl <| RL.splitP (dj := 52) rfl (fun h46 => ?_) (fun h46 => ?_)
    ·refine gF rfl (bT h46) <| gF rfl (bT h46) <| gF rfl (bT h46) <| gF rfl (bT h46) <| gF rfl (bT h46) <| gF rfl (bT h46) <| V (run_pickT (bT h46) (v := B true) rfl) <| RL.nil <| CW.condT rfl <| SR <| va (v := B false) rfl <| RL.nil <| CW.ret <| outP1 Tryd.results15 (congrArg B ?_) hH8.below
     (rw [one_x (by omega) (by omega) (by omega)]; done)
    ·refine gT rfl (bF h46) <| V (fA underlying37 1 rfl sizeOf3 rfl) <| gT rfl (bF h46) <| V (run_ld underlying3 rfl rfl (hH8.cell (i := 1) rfl (v := I _) rfl)) <| gT rfl (bF h46) <| V (fA underlying48 0 rfl sizeOf45 rfl) <| gT rfl (bF h46) <| V (run_ldV (hs.lats.sl.hp hH8) underlying45 rfl rfl (hH8.cell (i := 2) rfl rfl)) <| gT rfl (bF h46) <| V (run_lenSl (hs.lats.sl.hp hH8) rfl underlying45 rfl) <| gT rfl (bF h46) <| V (run_geq rfl rfl) <| V (run_pickF (bF h46) (v := B _) rfl) <| RL.nil <| CW.condP rfl (fun h48 => ?_) (fun h48 => ?_)
     ·refine SR <| va (v := B false) rfl <| RL.nil <| CW.ret <| outP1 Tryd.results15 (congrArg B ?_) hH8.below
      (rw [one_x (by omega) (by omega) (by omega)]; done)
     ·refine CW.skip <| CW.seq <| CW.regionD (by kernel_rfl) hH8 <| fun w49 hH50 => have zh50 := hH50.sub sR; AQ 0 rfl zh50 (fA underlying48 0 rfl sizeOf45 rfl) <| AT 1 rfl zh50 (fun w hS => run_ldV (hs.lats.sl.hp hS) underlying45 rfl rfl (hS.cell (i := 2) rfl rfl)) <| AQ 2 rfl zh50 (fA underlying37 1 rfl sizeOf3 rfl) <| AT 3 rfl zh50 (fun w hS => run_ld underlying3 rfl rfl (hS.cell (i := 1) rfl (v := I _) rfl)) <| AT 4 rfl zh50 (fun w hS => run_indexAddrS (hs.lats.sl.hp hS) underlying45 sizeOf72 rfl rfl (by omega)) <| AQ 5 rfl zh50 (fA underlying72 1 rfl sizeOf70 rfl) <| AT 6 rfl zh50 (fun w hS => run_ldEA (dv := lat0) (off := 1) (cs := shpL _) latL_len (hs.lats.sl.hp hS) underlying70 rfl rfl rfl (by omega) (lat_shp _)) <| AQ 7 rfl zh50 (fA underlying37 2 rfl sizeOf30 rfl) <| AT 8 rfl zh50 (fun w hS => run_ldV (hx.code.sl.hp hS) underlying30 rfl rfl (hS.cell (i := 1) rfl rfl)) <| AQ 9 rfl zh50 (fA underlying28 0 rfl sizeOf25 rfl) <| AT 10 rfl zh50 (fun w hS => run_ldV (ha.labels.sl.hp hS) underlying25 rfl rfl (hS.cell (i := 0) rfl rfl)) <| AN.two 11 15 (by kernel_rfl) ?_ ?_
      ·refine AO.callP rfl gnone rfl hH50 sR (c_code_Eval _ _ _ _ _ (by omega) _ (hx.code.sl.hp hH50) (ha.labels.sl.hp hH50) ((hs.at (by omega) (by omega)).mono hH50.kw) (hT.hp hH50)) (run_call3 call33 rfl rfl rfl) <| fun w51 hH52 => have zh52 := hH52.sub sR; ?_
       refine AQ 12 rfl zh52 (run_move (by conv => lhs; whnf)) ?_
       refine AQ 13 rfl zh52 (run_extract rfl (v := .agg _) rfl) <| AQ 14 rfl zh52 (run_extract rfl (v := B _) rfl) <| A1 15 <| AO.new rfl gnone rfl hH52 sR (f := fun b => .pointer (some ⟨b, 0, none⟩)) (run_alloc zero_el) <| fun b56 w54 hH55 => A1 16 <| AO.set rfl gnone hH55 (j := 0) rfl (sQ sR) (run_stEl rfl rfl rfl (hH55.blk (i := 0) rfl)) <| fun w59 hH60 => ?_
       simp only [z2] at hH60
       refine AQ 17 rfl (hH60.sub (sQ sR)) (aV (B _) rfl) <| AD <| SR <| V (fA underlying37 3 rfl sizeOf35 rfl) <| V (run_ldSub (sub := atomL _) underlying35 rfl rfl rfl (hH60.blk (i := 2) rfl) (ass_toB _)) <| V (run_ldA (cs := asgL _) underlying28 rfl rfl rfl (rangeAt_cells (hH60.blk (i := 1) rfl))) <| RL.callP rfl hH60 (c_holds_atom _ _  _ (ha.mono hH60.kw)) (run_call2 call34 rfl rfl) <| fun w61 hH62 => ?_
       refine V (run_move (by conv => lhs; whnf)) ?_
       refine V (run_extract rfl (v := .agg _) rfl) <| V (run_extract rfl (v := B _) rfl) <| RL.new rfl hH62 (f := fun b => (.pointer (some ⟨b, 0, none⟩))) (run_alloc zero_el) <| fun b66 w64 hH65 => RL.set hH65 (i := 0) rfl (run_stEl rfl rfl rfl (hH65.blk (i := 0) rfl)) <| fun w67 hH68 => ?_
       simp only [z2] at hH68
       refine aB rfl <| RL.nil <| SR <| mB rfl <| mB rfl <| RL.split (dj := 83) rfl (fun h69 => ?_) (fun h69 => ?_)
       ·refine gT rfl (bR (c := true) h69) <| mB rfl <| V (run_pickT (bR (c := true) h69) (v := B _) rfl) <| mB rfl <| RL.split (dj := 86) rfl (fun h70 => ?_) (fun h70 => ?_)
        ·refine gT rfl (bR (c := true) h70) <| V (run_ldEl underlying33 rfl rfl rfl (hH68.blk (i := 1) rfl)) <| gT rfl (bR (c := true) h70) <| V (run_ldEl underlying33 rfl rfl rfl (hH68.blk (i := 0) rfl)) <| gT rfl (bR (c := true) h70) <| RL.callP rfl hH68 (c_shape_Leq _ _  _) (run_call2 call35 rfl rfl) <| fun w71 hH72 => V (run_pickT (bR (c := true) h70) (v := B _) rfl) <| aB rfl <| RL.nil <| CW.ret <| outP1 Tryd.results15 (congrArg B ?_) hH72.below
         (rw [one_8 (show x.op = 8 by omega) (show 0 ≤ x.lat ∧ x.lat < s.lats.length by omega), show (evalF (shAt s x.lat) x.code a.as.labels).2 = true from ‹_›, show (atomF a.as x.to).2 = true from ‹_›, Bool.true_and]; rfl)
        ·refine gF rfl (bR (c := false) h70) <| gF rfl (bR (c := false) h70) <| gF rfl (bR (c := false) h70) <| V (run_pickF (bR (c := false) h70) (v := B false) rfl) <| aB rfl <| RL.nil <| CW.ret <| outP1 Tryd.results15 (congrArg B ?_) hH68.below
         (rw [one_8 (show x.op = 8 by omega) (show 0 ≤ x.lat ∧ x.lat < s.lats.length by omega), show (atomF a.as x.to).2 = false from ‹_›, Bool.and_false, Bool.false_and]; done)
       ·refine gF rfl (bR (c := false) h69) <| V (run_pickF (bR (c := false) h69) (v := B false) rfl) <| mB rfl <| gF rfl rfl <| gF rfl rfl <| gF rfl rfl <| V (run_pickF rfl (v := B false) rfl) <| aB rfl <| RL.nil <| CW.ret <| outP1 Tryd.results15 (congrArg B ?_) hH68.below
        (rw [one_8 (show x.op = 8 by omega) (show 0 ≤ x.lat ∧ x.lat < s.lats.length by omega), show (evalF (shAt s x.lat) x.code a.as.labels).2 = false from ‹_›, Bool.false_and, Bool.false_and]; done)
      ·refine AO.new rfl gnone rfl hH50 sR (f := fun b => .pointer (some ⟨b, 0, none⟩)) (run_alloc zero_el) <| fun b76 w74 hH75 => A1 11 <| AO.callP rfl gnone rfl hH75 (sQ sR) (c_code_Eval _ _ _ _ _ (by omega) _ (hx.code.sl.hp hH75) (ha.labels.sl.hp hH75) ((hs.at (by omega) (by omega)).mono hH75.kw) (hT.hp hH75)) (run_call3 call33 rfl rfl rfl) <| fun w77 hH78 => have zh78 := hH78.sub (sQ sR); ?_
       refine AQ 12 rfl zh78 (run_move (by conv => lhs; whnf)) ?_
       refine AQ 13 rfl zh78 (run_extract rfl (v := .agg _) rfl) <| AQ 14 rfl zh78 (run_extract rfl (v := B _) rfl) <| A1 16 <| AO.set rfl gnone hH78 (j := 0) rfl (sQ sR) (run_stEl rfl rfl rfl (hH78.blk (i := 0) rfl)) <| fun w82 hH83 => ?_
       simp only [z2] at hH83
       refine AQ 17 rfl (hH83.sub (sQ sR)) (aV (B _) rfl) <| AD <| SR <| V (fA underlying37 3 rfl sizeOf35 rfl) <| V (run_ldSub (sub := atomL _) underlying35 rfl rfl rfl (hH83.blk (i := 2) rfl) (ass_toB _)) <| V (run_ldA (cs := asgL _) underlying28 rfl rfl rfl (rangeAt_cells (hH83.blk (i := 1) rfl))) <| RL.callP rfl hH83 (c_holds_atom _ _  _ (ha.mono hH83.kw)) (run_call2 call34 rfl rfl) <| fun w84 hH85 => ?_
       refine V (run_move (by conv => lhs; whnf)) ?_
       refine V (run_extract rfl (v := .agg _) rfl) <| V (run_extract rfl (v := B _) rfl) <| RL.new rfl hH85 (f := fun b => (.pointer (some ⟨b, 0, none⟩))) (run_alloc zero_el) <| fun b89 w87 hH88 => RL.set hH88 (i := 0) rfl (run_stEl rfl rfl rfl (hH88.blk (i := 0) rfl)) <| fun w90 hH91 => ?_
       simp only [z2] at hH91
       refine aB rfl <| RL.nil <| SR <| mB rfl <| mB rfl <| RL.split (dj := 83) rfl (fun h92 => ?_) (fun h92 => ?_)
       ·refine gT rfl (bR (c := true) h92) <| mB rfl <| V (run_pickT (bR (c := true) h92) (v := B _) rfl) <| mB rfl <| RL.split (dj := 86) rfl (fun h93 => ?_) (fun h93 => ?_)
        ·refine gT rfl (bR (c := true) h93) <| V (run_ldEl underlying33 rfl rfl rfl (hH91.blk (i := 1) rfl)) <| gT rfl (bR (c := true) h93) <| V (run_ldEl underlying33 rfl rfl rfl (hH91.blk (i := 0) rfl)) <| gT rfl (bR (c := true) h93) <| RL.callP rfl hH91 (c_shape_Leq _ _  _) (run_call2 call35 rfl rfl) <| fun w94 hH95 => V (run_pickT (bR (c := true) h93) (v := B _) rfl) <| aB rfl <| RL.nil <| CW.ret <| outP1 Tryd.results15 (congrArg B ?_) hH95.below
         (rw [one_8 (show x.op = 8 by omega) (show 0 ≤ x.lat ∧ x.lat < s.lats.length by omega), show (evalF (shAt s x.lat) x.code a.as.labels).2 = true from ‹_›, show (atomF a.as x.to).2 = true from ‹_›, Bool.true_and]; rfl)
        ·refine gF rfl (bR (c := false) h93) <| gF rfl (bR (c := false) h93) <| gF rfl (bR (c := false) h93) <| V (run_pickF (bR (c := false) h93) (v := B false) rfl) <| aB rfl <| RL.nil <| CW.ret <| outP1 Tryd.results15 (congrArg B ?_) hH91.below
         (rw [one_8 (show x.op = 8 by omega) (show 0 ≤ x.lat ∧ x.lat < s.lats.length by omega), show (atomF a.as x.to).2 = false from ‹_›, Bool.and_false, Bool.false_and]; done)
       ·refine gF rfl (bR (c := false) h92) <| V (run_pickF (bR (c := false) h92) (v := B false) rfl) <| mB rfl <| gF rfl rfl <| gF rfl rfl <| gF rfl rfl <| V (run_pickF rfl (v := B false) rfl) <| aB rfl <| RL.nil <| CW.ret <| outP1 Tryd.results15 (congrArg B ?_) hH91.below
        (rw [one_8 (show x.op = 8 by omega) (show 0 ≤ x.lat ∧ x.lat < s.lats.length by omega), show (evalF (shAt s x.lat) x.code a.as.labels).2 = false from ‹_›, Bool.false_and, Bool.false_and]; done)
   ·refine CW.skip <| SR <| va (v := B false) rfl <| RL.nil <| CW.ret <| outP1 Tryd.results15 (congrArg B ?_) hH8.below
    (rw [one_x (by omega) (by omega) (by omega)]; done)
theorem c_holds_First (p : ProbR) (a : Asg) (hp2 : ∀ x ∈ p.asserts, AssSm x) (ha2 : AsgSm a) (w : World) (hp : ProbV (Kw w) p) (ha : AsgV (Kw w) a) (hT : Tab w) : Calls Tryd.prog 17 #[.agg (probL p).toArray, .agg (asgL a).toArray] w (Pure (I (firstF p.s a.as p.asserts)) w) := by
 have hm1 := hp.asserts.small
 unfold maxLen at hm1
 refine enter Tryd.func17 rfl Tryd.ntmps17 rfl <| have hH := Hp.start w; SR <| RL.new rfl hH (f := fun b => (.pointer (some ⟨b, 0, none⟩))) (run_box (v := .agg _) rfl) <| fun b3 w1 hH2 => RL.new rfl hH2 (f := fun b => (.pointer (some ⟨b, 0, none⟩))) (run_box (v := .agg _) rfl) <| fun b6 w4 hH5 => va (v := I 0) rfl <| RL.nil <| CW.seq <| SR <| V (fA underlying51 2 rfl sizeOf49 rfl) <| V (run_ldV (hp.asserts.sl.hp hH5) underlying49 rfl rfl (hH5.cell (i := 1) rfl rfl)) <| V (run_lenSl (hp.asserts.sl.hp hH5) rfl underlying49 rfl) <| vm (v := I 0) rfl <| RL.nil <| CW.block <| CW.loop (G := Int) (fun k s' w' => (Fr (rg 4 3 (rg 10 13 [])) _ s') ∧ (Hp w w' _) ∧ (s' 10 = I k) ∧ (0 ≤ k) ∧ (k ≤ p.asserts.length) ∧ (∀ j : Int, 0 ≤ j → j < k → oneF p.s a.as (p.asserts.getD j.toNat ass0) = true)) (fun k => (p.asserts.length - k).toNat) (0) ⟨Fr.refl _ _, hH5, rfl, (by omega), (by omega), fun j a b => absurd b (by omega)⟩ <| ?_
 rintro k sg7 w7 ⟨fr7, hH7, e10_7, h0, hk, hg⟩
 have e2_7 := fr7.pp 2 rfl rfl
 have e3_7 := fr7.pp 3 rfl rfl
 have e8_7 := (fr7 8 rfl).trans (by conv => lhs; whnf)
 have e9_7 := fr7.ii 9 rfl rfl
 refine SR <| V (run_lss e10_7 e9_7) <| RL.nil <| CW.seq <| CW.condP rfl (fun h9 => ?_) (fun h9 => ?_)
 ·refine CW.skip <| CW.seq <| CW.block <| SR <| vm e10_7 <| V (run_indexAddrS (hp.asserts.sl.hp hH7) underlying49 sizeOf37 e8_7 e10_7 (by omega)) <| V (run_ldE (dv := ass0) assL_len (hp.asserts.sl.hp hH7) underlying37 rfl rfl rfl (by omega)) <| RL.new rfl hH7 (f := fun b => (.pointer (some ⟨b, 0, none⟩))) (run_alloc zero_ass) <| fun b12 w10 hH11 => aI rfl <| RL.set hH11 (i := 0) rfl (run_stW (c' := (assL _).toArray) rfl rfl rfl (assL_one (hp.at (by omega) (by omega))) (hH11.blk (i := 0) rfl) rfl) <| fun w13 hH14 => ?_
  simp only [z2] at hH14
  refine RL.nil <| SR <| V (fA underlying51 0 rfl sizeOf48 e2_7) <| V (run_ldSub (sub := scpL _) underlying48 rfl rfl rfl (hH14.blk (i := 2) rfl) (prob_sB _)) <| V (run_ldA (cs := assL _) underlying37 rfl rfl rfl (rangeAt_cells (hH14.blk (i := 0) rfl))) <| V (run_ldA (cs := asgL _) underlying28 rfl rfl e3_7 (rangeAt_cells (hH14.blk (i := 1) rfl))) <| RL.callP rfl hH14 (c_holds_One _ _ _ ((hp2 _ (List.mem_of_getElem? (getD_at (d := ass0) (l := p.asserts) h0 ‹k < _›)))) (ha2) _ (hp.s.mono hH14.kw) ((hp.at (by omega) (by omega)).mono hH14.kw) (ha.mono hH14.kw) (hT.hp hH14)) (run_call3 call15 rfl rfl rfl) <| fun w15 hH16 => V (run_not rfl) <| RL.nil <| CW.cond rfl (fun h19 => ?_) (fun h19 => ?_)
  ·refine SR <| mI rfl <| aI rfl <| RL.nil <| CW.ret <| outP1 Tryd.results17 (congrArg I ?_) hH16.below
   (rw [first_yes h0 ‹k < _› (nt ‹(!oneF _ _ _) = true›) hg]; done)
  ·refine CW.skip <| CW.region <| V (run_add e10_7 rfl (by omega)) <| mI rfl <| RL.nil <| ?_
   refine ⟨k + 1, ?_, fr7.u4.u4.u4.u1.u1, (hH16.sub (sQ sR)), (congrArg I (by rfl)), ?_, ?_, ?_⟩
   ·((try dsimp only); omega)
   ·omega
   ·omega
   ·exact fun j u v => if e : j = k then e ▸ nf ‹(!oneF _ _ _) = false› else hg j u (by omega)
 ·refine CW.exit (id := 0) rfl <| SR <| va (v := I (-1)) rfl <| RL.nil <| CW.ret <| outP1 Tryd.results17 (congrArg I ?_) hH7.below
  (rw [first_no ‹¬ k < _› hg]; done)
theorem c_holds_All (p : ProbR) (a : Asg) (hp2 : ∀ x ∈ p.asserts, AssSm x) (ha2 : AsgSm a) (w : World) (hp : ProbV (Kw w) p) (ha : AsgV (Kw w) a) (hT : Tab w) : Calls Tryd.prog 16 #[.agg (probL p).toArray, .agg (asgL a).toArray] w (Pure (B (allF p.s a.as p.asserts)) w) := by
 have hm1 := hp.asserts.small
 unfold maxLen at hm1
 refine enter Tryd.func16 rfl Tryd.ntmps16 rfl <| have hH := Hp.start w; SR <| RL.new rfl hH (f := fun b => (.pointer (some ⟨b, 0, none⟩))) (run_box (v := .agg _) rfl) <| fun b3 w1 hH2 => RL.new rfl hH2 (f := fun b => (.pointer (some ⟨b, 0, none⟩))) (run_box (v := .agg _) rfl) <| fun b6 w4 hH5 => va (v := B false) rfl <| RL.nil <| SR <| V (fA underlying51 0 rfl sizeOf48 rfl) <| V (run_ldSub (sub := scpL _) underlying48 rfl rfl rfl (hH5.blk (i := 1) rfl) (prob_sB _)) <| V (run_ldA (cs := asgL _) underlying28 rfl rfl rfl (rangeAt_cells (hH5.blk (i := 0) rfl))) <| RL.callP rfl hH5 (c_assign_Right _ _  _ (hp.s.mono hH5.kw) (ha.mono hH5.kw) (hT.hp hH5)) (run_call2 call13 rfl rfl) <| fun w7 hH8 => mB rfl <| RL.split (dj := 9) rfl (fun h10 => ?_) (fun h10 => ?_)
 ·refine gT rfl (bR (c := true) h10) <| V (run_ldA (cs := probL _) underlying51 rfl rfl rfl (rangeAt_cells (hH8.blk (i := 1) rfl))) <| gT rfl (bR (c := true) h10) <| V (run_ldA (cs := asgL _) underlying28 rfl rfl rfl (rangeAt_cells (hH8.blk (i := 0) rfl))) <| gT rfl (bR (c := true) h10) <| RL.callP rfl hH8 (c_holds_First _ _ (hp2) (ha2) _ (hp.mono hH8.kw) (ha.mono hH8.kw) (hT.hp hH8)) (run_call2 call17 rfl rfl) <| fun w11 hH12 => gT rfl (bR (c := true) h10) <| V (run_lss rfl rfl) <| V (run_pickT (bR (c := true) h10) (v := B _) rfl) <| aB rfl <| RL.nil <| CW.ret <| outP1 Tryd.results16 (congrArg B ?_) hH12.below
  (rw [allF, show rightA p.s.sc a.as = true from ‹_›]; rfl)
 ·refine gF rfl (bR (c := false) h10) <| gF rfl (bR (c := false) h10) <| gF rfl (bR (c := false) h10) <| gF rfl (bR (c := false) h10) <| V (run_pickF (bR (c := false) h10) (v := B false) rfl) <| aB rfl <| RL.nil <| CW.ret <| outP1 Tryd.results16 (congrArg B ?_) hH8.below
  (rw [allF, show rightA p.s.sc a.as = false from ‹_›]; rfl)
end Go.Proofs.YtkdbiooamgnfmaaDoor.W
