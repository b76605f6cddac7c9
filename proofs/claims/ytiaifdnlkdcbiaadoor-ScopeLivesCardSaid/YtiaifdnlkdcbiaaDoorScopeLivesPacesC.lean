/-
  The walks of the functions that the laws of this seat reach, part 3: each returns what its plain counterpart tells, and turns nothing that was there.
-/
import Derived.Test.YtiaifdnlkdcbiaaDoorProg
import Derived.Test.YtiaifdnlkdcbiaaDoorEnv
import Derived.Test.YtiaifdnlkdcbiaaDoorPlain
import Derived.Test.YtiaifdnlkdcbiaaDoorBase
import Derived.Test.YtiaifdnlkdcbiaaDoorOrd
import Derived.Test.YtiaifdnlkdcbiaaDoorRel
import Derived.Test.YtiaifdnlkdcbiaaDoorClo
import Derived.Test.YtiaifdnlkdcbiaaDoorCov
import Derived.Test.YtiaifdnlkdcbiaaDoorArr
import Derived.Test.YtiaifdnlkdcbiaaDoorHas
import Derived.Test.YtiaifdnlkdcbiaaDoorGrd
import Derived.Test.YtiaifdnlkdcbiaaDoorStr
import Derived.Test.YtiaifdnlkdcbiaaDoorVu
import Derived.Test.YtiaifdnlkdcbiaaDoorShp
import Derived.Test.YtiaifdnlkdcbiaaDoorShl
import Derived.Test.YtiaifdnlkdcbiaaDoorShq
import Derived.Test.YtiaifdnlkdcbiaaDoorShr
import Derived.Test.YtiaifdnlkdcbiaaDoorCut
import Derived.Test.YtiaifdnlkdcbiaaDoorRec
import Derived.Test.YtiaifdnlkdcbiaaDoorScp
import Derived.Test.YtiaifdnlkdcbiaaDoorScq
import Derived.Test.YtiaifdnlkdcbiaaDoorScj
import Derived.Test.YtiaifdnlkdcbiaaDoorJdg
import Derived.Test.YtiaifdnlkdcbiaaDoorFlt
import Derived.Test.YtiaifdnlkdcbiaaDoorAdd
import Derived.Test.YtiaifdnlkdcbiaaDoorRgt
import Derived.Test.YtiaifdnlkdcbiaaDoorAlv
import Derived.Test.YtiaifdnlkdcbiaaDoorKee
import Derived.Test.YtiaifdnlkdcbiaaDoorMin
import Derived.Test.YtiaifdnlkdcbiaaDoorScopeLivesPacesB
namespace Go.Proofs.YtiaifdnlkdcbiaaDoor.W
open Go Go.RowKit Go.Proofs.YtiaifdnlkdcbiaaDoor.E Go.Proofs.YtiaifdnlkdcbiaaDoor.M
set_option linter.unusedVariables false
set_option linter.unusedSimpArgs false
set_option maxRecDepth 100000
open Tryd

theorem s_all (what : Int) (v : Value) (l : List NodeR) (w : World) (hs : Sl w v 5 l.length (l.flatMap nodeL)) (hv : NodesV (Kw w) l) (ihC : ∀ x ∈ l, ∀ w, NodeV (Kw w) x → Calls Tryd.prog 95 #[.agg (nodeL x).toArray] w (Ret fun u w' => (∃ b : Bool, u = B b) ∧ Below w.heap.size w w')) (ihL : ∀ x ∈ l, ∀ w, NodeV (Kw w) x → Calls Tryd.prog 43 #[.agg (nodeL x).toArray] w (Ret fun u w' => (∃ b : Bool, u = B b) ∧ Below w.heap.size w w')) (ihG : ∀ x ∈ l, ∀ y ∈ x.kids, ∀ w, NodeV (Kw w) y → Calls Tryd.prog 43 #[.agg (nodeL y).toArray] w (Ret fun u w' => (∃ b : Bool, u = B b) ∧ Below w.heap.size w w')) : Calls Tryd.prog 72 #[I what, v] w (Ret fun u w' => (∃ b : Bool, u = B b) ∧ Below w.heap.size w w') := by
 have hm := hs.small
 unfold maxLen at hm
 refine enter Tryd.func72 rfl Tryd.ntmps72 rfl ?_
 have hH := Hp.start w
 refine SR ?_
 refine V (aV (B false) rfl) ?_
 refine RL.nil ?_
 refine CW.seq ?_
 refine SR ?_
 refine V (aV (I 0) rfl) ?_
 refine RL.nil ?_
 refine CW.block ?_
 refine CW.loop (G := (Int)) (fun (k : Int) s' w' => (Fr [4, 5, 6, 7, 8, 9, 10, 11, 12, 13, 14, 15, 16, 17, 18, 19, 20, 21, 22, 23, 24, 25, 26, 27, 28, 29, 30, 31, 32, 33, 34, 35, 36, 37, 38, 39, 40, 41, 42, 43, 44, 45, 46, 47, 48, 49, 50, 51, 52, 53, 54, 55, 56, 57, 58, 59, 60, 61, 62, 63, 64, 65, 66, 67, 68, 69, 70, 71, 72, 73, 74, 75, 76, 77, 78, 79, 80, 81, 82, 83, 84, 85, 86, 87, 88, 89, 90, 91, 92, 93, 94, 95, 96, 97, 98, 99] _ s') ∧ (Hp w w' _) ∧ (s' 5 = I k) ∧ (0 ≤ k) ∧ (k ≤ l.length)) (fun (k : Int) => (l.length - k).toNat) (0) ⟨Fr.refl _ _, hH, rfl, (by omega), (by omega)⟩ ?_
 rintro k sg1 w1 ⟨fr1, hH1, e5_1, h0, hk⟩
 have e0_1 : sg1 0 = I _ := (fr1 0 rfl).trans rfl
 have e1_1 := (fr1 1 rfl).trans (by conv => lhs; whnf)
 refine CW.seq ?_
 refine SR ?_
 refine V (run_move e5_1) ?_
 refine V (run_move e1_1) ?_
 refine V (run_lenSl (hs.hp hH1) rfl underlying41 rfl) ?_
 refine V (run_lss rfl rfl) ?_
 refine RL.nil ?_
 refine CW.condP rfl (fun h3 => ?_) (fun h3 => ?_)
 ·refine CW.skip ?_
  refine CW.seq ?_
  refine CW.block ?_
  refine SR ?_
  refine V (run_move e1_1) ?_
  refine V (run_move e5_1) ?_
  refine V (run_indexAddrS (hs.hp hH1) underlying41 sizeOf43 rfl rfl (by first | omega | (simp only [Int.natCast_eq_zero] at *; omega))) ?_
  refine V (run_ldE (dv := node0) nodeL_len (hs.hp hH1) underlying43 rfl rfl rfl (by first | omega | (simp only [Int.natCast_eq_zero] at *; omega))) ?_
  refine RL.new rfl hH1 (f := fun b => (.pointer (some ⟨b, 0, none⟩))) (run_alloc Tryd.zeroValue43) ?_
  intro b6 w4 hH5
  refine RL.set hH5 (i := 0) rfl (run_stW (c' := (nodeL _).toArray) rfl rfl rfl (nodeL_one (hv.at (by first | omega | (simp only [Int.natCast_eq_zero] at *; omega)) (by first | omega | (simp only [Int.natCast_eq_zero] at *; omega)))) (hH5.blk (i := 0) rfl) rfl) ?_
  intro w7 hH8
  simp only [z0, z1] at hH8
  refine RL.nil ?_
  refine CW.cutG (G := (Bool)) hH8 [7, 18, 19, 20, 21, 22, 23, 24, 25, 26, 27, 28, 29, 30, 31] (fun (L : List Ent) (x7 : (Bool)) => L) (fun (x7 : (Bool)) s' => (s' 7 = B x7)) ?_ ?_
  ·refine CW.region ?_
   refine V (run_move e0_1) ?_
   refine V (run_eql rfl rfl) ?_
   refine V (mV (B _) rfl) ?_
   refine RL.splitP (dj := 20) rfl (fun h10 => ?_) (fun h10 => ?_)
   ·refine RL.gT rfl (bT h10) ?_
    refine V (run_ldA (cs := nodeL _) underlying43 rfl rfl rfl (rangeAt_cells (hH8.blk (i := 0) rfl))) ?_
    refine RL.gT rfl (bT h10) ?_
    refine RL.callT rfl (ihC _ (List.mem_of_getElem? (getD_at (d := node0) h0 ‹k < _›)) _ (NodeV.mono hH8.kw (hv.at h0 ‹_›))) (run_call1 call95 rfl) ?_
    rintro _ w13 ⟨⟨b16, rfl⟩, hb14⟩
    have hH15 := hH8.call hb14
    refine V (run_pickT (bT h10) (v := B _) rfl) ?_
    refine V (mV (B _) rfl) ?_
    refine RL.split (dj := 24) rfl (fun h18 => ?_) (fun h18 => ?_)
    ·refine RL.gF rfl rfl (bR (c := true) h18) rfl ?_
     refine RL.gF rfl rfl (bR (c := true) h18) rfl ?_
     refine RL.gF rfl rfl (bR (c := true) h18) rfl ?_
     refine RL.gU rfl rfl rfl ?_
     refine RL.gU rfl rfl rfl ?_
     refine RL.gF rfl rfl (bR (c := true) h18) rfl ?_
     refine V (run_pickT (bR (c := true) h18) (v := B true) rfl) ?_
     refine V (aV (B _) rfl) ?_
     refine RL.nil ?_
     refine ⟨((Fr.refl _ _)).u4.u4.u4.u1.u1.u1, _, hH15, rfl⟩
    ·refine RL.gT rfl (bR (c := false) h18) ?_
     refine V (run_move e0_1) ?_
     refine RL.gT rfl (bR (c := false) h18) ?_
     refine V (run_eql rfl rfl) ?_
     refine RL.gT rfl (bR (c := false) h18) ?_
     refine V (mV (B _) rfl) ?_
     refine RL.splitP (dj := 27) rfl (fun h20 => ?_) (fun h20 => ?_)
     ·refine RL.gT rfl (bT h20) ?_
      refine V (run_ldA (cs := nodeL _) underlying43 rfl rfl rfl (rangeAt_cells (hH15.blk (i := 0) rfl))) ?_
      refine RL.gT rfl (bT h20) ?_
      refine RL.callT rfl (ihL _ (List.mem_of_getElem? (getD_at (d := node0) h0 ‹k < _›)) _ (NodeV.mono hH15.kw (hv.at h0 ‹_›))) (run_call1 call43 rfl) ?_
      rintro _ w23 ⟨⟨b26, rfl⟩, hb24⟩
      have hH25 := hH15.call hb24
      refine RL.gT rfl (bR (c := false) h18) ?_
      refine V (run_pickT (bT h20) (v := B _) rfl) ?_
      refine V (run_pickF (bR (c := false) h18) (v := B _) rfl) ?_
      refine V (aV (B _) rfl) ?_
      refine RL.nil ?_
      refine ⟨((Fr.refl _ _)).u4.u4.u4.u1.u1.u1, _, hH25, rfl⟩
     ·refine RL.gF rfl rfl (bF h20) rfl ?_
      refine RL.gF rfl rfl (bF h20) rfl ?_
      refine RL.gT rfl (bR (c := false) h18) ?_
      refine V (run_pickF (bF h20) (v := B false) rfl) ?_
      refine V (run_pickF (bR (c := false) h18) (v := B _) rfl) ?_
      refine V (aV (B _) rfl) ?_
      refine RL.nil ?_
      refine ⟨((Fr.refl _ _)).u4.u4.u4.u1.u1.u1, _, hH15, rfl⟩
   ·refine RL.gF rfl rfl (bF h10) rfl ?_
    refine RL.gF rfl rfl (bF h10) rfl ?_
    refine V (run_pickF (bF h10) (v := B false) rfl) ?_
    refine V (mV (B _) rfl) ?_
    refine RL.gT rfl rfl ?_
    refine V (run_move e0_1) ?_
    refine RL.gT rfl rfl ?_
    refine V (run_eql rfl rfl) ?_
    refine RL.gT rfl rfl ?_
    refine V (mV (B _) rfl) ?_
    refine RL.splitP (dj := 27) rfl (fun h29 => ?_) (fun h29 => ?_)
    ·refine RL.gT rfl (bT h29) ?_
     refine V (run_ldA (cs := nodeL _) underlying43 rfl rfl rfl (rangeAt_cells (hH8.blk (i := 0) rfl))) ?_
     refine RL.gT rfl (bT h29) ?_
     refine RL.callT rfl (ihL _ (List.mem_of_getElem? (getD_at (d := node0) h0 ‹k < _›)) _ (NodeV.mono hH8.kw (hv.at h0 ‹_›))) (run_call1 call43 rfl) ?_
     rintro _ w32 ⟨⟨b35, rfl⟩, hb33⟩
     have hH34 := hH8.call hb33
     refine RL.gT rfl rfl ?_
     refine V (run_pickT (bT h29) (v := B _) rfl) ?_
     refine V (run_pickF rfl (v := B _) rfl) ?_
     refine V (aV (B _) rfl) ?_
     refine RL.nil ?_
     refine ⟨((Fr.refl _ _)).u4.u4.u4.u1.u1.u1, _, hH34, rfl⟩
    ·refine RL.gF rfl rfl (bF h29) rfl ?_
     refine RL.gF rfl rfl (bF h29) rfl ?_
     refine RL.gT rfl rfl ?_
     refine V (run_pickF (bF h29) (v := B false) rfl) ?_
     refine V (run_pickF rfl (v := B _) rfl) ?_
     refine V (aV (B _) rfl) ?_
     refine RL.nil ?_
     refine ⟨((Fr.refl _ _)).u4.u4.u4.u1.u1.u1, _, hH8, rfl⟩
  ·rintro x7 sg37 w37 fr37 hH37 e7_37
   have e0_37 := (fr37 0 rfl).trans e0_1
   have e1_37 := (fr37 1 rfl).trans e1_1
   have e5_37 := (fr37 5 rfl).trans e5_1
   have e6_37 : sg37 6 = Pn _ _ := (fr37 6 rfl).trans rfl
   have e8_37 : sg37 8 = I _ := (fr37 8 rfl).trans rfl
   have e9_37 := (fr37 9 rfl).trans (by conv => lhs; whnf)
   have e10_37 : sg37 10 = I _ := (fr37 10 rfl).trans rfl
   have e11_37 : sg37 11 = B _ := (fr37 11 rfl).trans rfl
   have e14_37 := (fr37 14 rfl).trans (by conv => lhs; whnf)
   have e15_37 : sg37 15 = I _ := (fr37 15 rfl).trans rfl
   have e16_37 : sg37 16 = Pn _ _ := (fr37 16 rfl).trans rfl
   have e17_37 : sg37 17 = .agg _ := (fr37 17 rfl).trans rfl
   refine CW.cutG (G := (Bool)) hH37 [7, 32, 33, 34, 35, 36, 37, 38, 39, 40, 41, 42, 43, 44, 45, 46, 47, 48, 49, 50, 51, 52] (fun (L : List Ent) (x7 : (Bool)) => L) (fun (x7 : (Bool)) s' => (s' 7 = B x7)) ?_ ?_
   ·refine SR ?_
    refine V (run_move e0_37) ?_
    refine V (run_eql rfl rfl) ?_
    refine RL.nil ?_
    refine CW.condP rfl (fun h40 => ?_) (fun h40 => ?_)
    ·refine CW.region ?_
     refine V (fA underlying43 0 rfl sizeOf3 e6_37) ?_
     refine V (run_ld underlying3 rfl rfl (hH37.cell (i := 0) rfl (v := I _) rfl)) ?_
     refine V (run_eql rfl rfl) ?_
     refine V (mV (B _) rfl) ?_
     refine RL.splitP (dj := 37) rfl (fun h42 => ?_) (fun h42 => ?_)
     ·refine RL.gT rfl (bT h42) ?_
      refine V (fA underlying43 2 rfl sizeOf9 e6_37) ?_
      refine RL.gT rfl (bT h42) ?_
      refine V (run_ld underlying9 rfl rfl (hH37.cell (i := 0) rfl (v := .string _) rfl)) ?_
      refine RL.gT rfl (bT h42) ?_
      refine RL.callP rfl hH37 (c_clearanceref02_Right _  _) (run_call1 call42 rfl) ?_
      intro w43 hH44
      refine V (run_pickT (bT h42) (v := B _) rfl) ?_
      refine V (mV (B _) rfl) ?_
      refine RL.split (dj := 42) rfl (fun h46 => ?_) (fun h46 => ?_)
      ·refine RL.gT rfl (bR (c := true) h46) ?_
       refine V (fA underlying43 3 rfl sizeOf39 e6_37) ?_
       refine RL.gT rfl (bR (c := true) h46) ?_
       refine V (run_ldV ((hv.at (by first | omega | (simp only [Int.natCast_eq_zero] at *; omega)) (by first | omega | (simp only [Int.natCast_eq_zero] at *; omega))).names_.sl.hp hH44) underlying39 rfl rfl (hH44.cell (i := 0) rfl rfl)) ?_
       refine RL.gT rfl (bR (c := true) h46) ?_
       refine RL.callP rfl hH44 (c_clearanceref10_right _ _  _ ((hv.at (by first | omega | (simp only [Int.natCast_eq_zero] at *; omega)) (by first | omega | (simp only [Int.natCast_eq_zero] at *; omega))).names_.sl.hp hH44)) (run_call1 call73 rfl) ?_
       intro w47 hH48
       refine V (run_pickT (bR (c := true) h46) (v := B _) rfl) ?_
       refine V (mV (B _) rfl) ?_
       refine RL.split (dj := 47) rfl (fun h50 => ?_) (fun h50 => ?_)
       ·refine RL.gT rfl (bR (c := true) h50) ?_
        refine V (fA underlying43 4 rfl sizeOf41 e6_37) ?_
        refine RL.gT rfl (bR (c := true) h50) ?_
        refine V (run_ldV ((hv.at (by first | omega | (simp only [Int.natCast_eq_zero] at *; omega)) (by first | omega | (simp only [Int.natCast_eq_zero] at *; omega))).kids_.sl.hp hH48) underlying41 rfl rfl (hH48.cell (i := 0) rfl rfl)) ?_
        refine RL.gT rfl (bR (c := true) h50) ?_
        refine V (run_lenSl ((hv.at (by first | omega | (simp only [Int.natCast_eq_zero] at *; omega)) (by first | omega | (simp only [Int.natCast_eq_zero] at *; omega))).kids_.sl.hp hH48) rfl underlying41 rfl) ?_
        refine RL.gT rfl (bR (c := true) h50) ?_
        refine V (run_eql rfl rfl) ?_
        refine V (run_pickT (bR (c := true) h50) (v := B _) rfl) ?_
        refine V (aV (B _) rfl) ?_
        refine RL.nil ?_
        refine ⟨((Fr.refl _ _)).u4.u4.u4.u4.u4.u1.u1, _, hH48, rfl⟩
       ·refine RL.gF rfl rfl (bR (c := false) h50) rfl ?_
        refine RL.gF rfl rfl (bR (c := false) h50) rfl ?_
        refine RL.gF rfl rfl (bR (c := false) h50) rfl ?_
        refine RL.gF rfl rfl (bR (c := false) h50) rfl ?_
        refine V (run_pickF (bR (c := false) h50) (v := B false) rfl) ?_
        refine V (aV (B _) rfl) ?_
        refine RL.nil ?_
        refine ⟨((Fr.refl _ _)).u4.u4.u4.u4.u4.u1.u1, _, hH48, rfl⟩
      ·refine RL.gF rfl rfl (bR (c := false) h46) rfl ?_
       refine RL.gF rfl rfl (bR (c := false) h46) rfl ?_
       refine RL.gF rfl rfl (bR (c := false) h46) rfl ?_
       refine V (run_pickF (bR (c := false) h46) (v := B false) rfl) ?_
       refine V (mV (B _) rfl) ?_
       refine RL.gF rfl rfl rfl rfl ?_
       refine RL.gF rfl rfl rfl rfl ?_
       refine RL.gF rfl rfl rfl rfl ?_
       refine RL.gF rfl rfl rfl rfl ?_
       refine V (run_pickF rfl (v := B false) rfl) ?_
       refine V (aV (B _) rfl) ?_
       refine RL.nil ?_
       refine ⟨((Fr.refl _ _)).u4.u4.u4.u4.u4.u1.u1, _, hH44, rfl⟩
     ·refine RL.gF rfl rfl (bF h42) rfl ?_
      refine RL.gF rfl rfl (bF h42) rfl ?_
      refine RL.gF rfl rfl (bF h42) rfl ?_
      refine V (run_pickF (bF h42) (v := B false) rfl) ?_
      refine V (mV (B _) rfl) ?_
      refine RL.gF rfl rfl rfl rfl ?_
      refine RL.gF rfl rfl rfl rfl ?_
      refine RL.gF rfl rfl rfl rfl ?_
      refine V (run_pickF rfl (v := B false) rfl) ?_
      refine V (mV (B _) rfl) ?_
      refine RL.gF rfl rfl rfl rfl ?_
      refine RL.gF rfl rfl rfl rfl ?_
      refine RL.gF rfl rfl rfl rfl ?_
      refine RL.gF rfl rfl rfl rfl ?_
      refine V (run_pickF rfl (v := B false) rfl) ?_
      refine V (aV (B _) rfl) ?_
      refine RL.nil ?_
      refine ⟨((Fr.refl _ _)).u4.u4.u4.u4.u4.u1.u1, _, hH37, rfl⟩
    ·refine CW.skip ?_
     refine ⟨((Fr.refl _ _)).u1.u1, _, hH37, (Eq.trans e7_37 rfl)⟩
   ·rintro x7 sg52 w52 fr52 hH52 e7_52
    have e0_52 := (fr52 0 rfl).trans e0_37
    have e1_52 := (fr52 1 rfl).trans e1_37
    have e5_52 := (fr52 5 rfl).trans e5_37
    have e6_52 := (fr52 6 rfl).trans e6_37
    have e8_52 := (fr52 8 rfl).trans e8_37
    have e9_52 := (fr52 9 rfl).trans e9_37
    have e10_52 := (fr52 10 rfl).trans e10_37
    have e11_52 := (fr52 11 rfl).trans e11_37
    have e14_52 := (fr52 14 rfl).trans e14_37
    have e15_52 := (fr52 15 rfl).trans e15_37
    have e16_52 := (fr52 16 rfl).trans e16_37
    have e17_52 := (fr52 17 rfl).trans e17_37
    refine CW.cutG (G := (Bool)) hH52 [7, 53, 54, 55, 56, 57, 58, 59, 60, 61, 62, 63, 64, 65, 66, 67, 68, 69, 70, 71, 72, 73, 74, 75, 76, 77, 78, 79, 80, 81, 82, 83, 84, 85, 86, 87, 88, 89, 90, 91, 92, 93, 94, 95, 96, 97] (fun (L : List Ent) (x7 : (Bool)) => L) (fun (x7 : (Bool)) s' => (s' 7 = B x7)) ?_ ?_
    ·refine SR ?_
     refine V (run_move e0_52) ?_
     refine V (run_eql rfl rfl) ?_
     refine RL.nil ?_
     refine CW.condP rfl (fun h55 => ?_) (fun h55 => ?_)
     ·refine CW.region ?_
      refine V (fA underlying43 0 rfl sizeOf3 e6_52) ?_
      refine V (run_ld underlying3 rfl rfl (hH52.cell (i := 0) rfl (v := I _) rfl)) ?_
      refine V (run_eql rfl rfl) ?_
      refine V (mV (B _) rfl) ?_
      refine RL.splitP (dj := 58) rfl (fun h57 => ?_) (fun h57 => ?_)
      ·refine RL.gT rfl (bT h57) ?_
       refine V (fA underlying43 2 rfl sizeOf9 e6_52) ?_
       refine RL.gT rfl (bT h57) ?_
       refine V (run_ld underlying9 rfl rfl (hH52.cell (i := 0) rfl (v := .string _) rfl)) ?_
       refine RL.gT rfl (bT h57) ?_
       refine RL.callP rfl hH52 (c_clearanceref02_Right _  _) (run_call1 call42 rfl) ?_
       intro w58 hH59
       refine V (run_pickT (bT h57) (v := B _) rfl) ?_
       refine V (mV (B _) rfl) ?_
       refine RL.split (dj := 63) rfl (fun h61 => ?_) (fun h61 => ?_)
       ·refine RL.gT rfl (bR (c := true) h61) ?_
        refine V (fA underlying43 3 rfl sizeOf39 e6_52) ?_
        refine RL.gT rfl (bR (c := true) h61) ?_
        refine V (run_ldV ((hv.at (by first | omega | (simp only [Int.natCast_eq_zero] at *; omega)) (by first | omega | (simp only [Int.natCast_eq_zero] at *; omega))).names_.sl.hp hH59) underlying39 rfl rfl (hH59.cell (i := 0) rfl rfl)) ?_
        refine RL.gT rfl (bR (c := true) h61) ?_
        refine V (run_lenSl ((hv.at (by first | omega | (simp only [Int.natCast_eq_zero] at *; omega)) (by first | omega | (simp only [Int.natCast_eq_zero] at *; omega))).names_.sl.hp hH59) rfl underlying39 rfl) ?_
        refine RL.gT rfl (bR (c := true) h61) ?_
        refine V (run_eql rfl rfl) ?_
        refine V (run_pickT (bR (c := true) h61) (v := B _) rfl) ?_
        refine V (mV (B _) rfl) ?_
        refine RL.splitP (dj := 69) rfl (fun h63 => ?_) (fun h63 => ?_)
        ·refine RL.gT rfl (bT h63) ?_
         refine V (fA underlying43 4 rfl sizeOf41 e6_52) ?_
         refine RL.gT rfl (bT h63) ?_
         refine V (run_ldV ((hv.at (by first | omega | (simp only [Int.natCast_eq_zero] at *; omega)) (by first | omega | (simp only [Int.natCast_eq_zero] at *; omega))).kids_.sl.hp hH59) underlying41 rfl rfl (hH59.cell (i := 0) rfl rfl)) ?_
         refine RL.gT rfl (bT h63) ?_
         refine V (run_lenSl ((hv.at (by first | omega | (simp only [Int.natCast_eq_zero] at *; omega)) (by first | omega | (simp only [Int.natCast_eq_zero] at *; omega))).kids_.sl.hp hH59) rfl underlying41 rfl) ?_
         refine RL.gT rfl (bT h63) ?_
         refine V (run_eql rfl rfl) ?_
         refine V (run_pickT (bT h63) (v := B _) rfl) ?_
         refine V (mV (B _) rfl) ?_
         refine RL.splitP (dj := 75) rfl (fun h65 => ?_) (fun h65 => ?_)
         ·refine RL.gT rfl (bT h65) ?_
          refine V (fA underlying43 4 rfl sizeOf41 e6_52) ?_
          refine RL.gT rfl (bT h65) ?_
          refine V (run_ldV ((hv.at (by first | omega | (simp only [Int.natCast_eq_zero] at *; omega)) (by first | omega | (simp only [Int.natCast_eq_zero] at *; omega))).kids_.sl.hp hH59) underlying41 rfl rfl (hH59.cell (i := 0) rfl rfl)) ?_
          refine RL.gT rfl (bT h65) ?_
          refine V (run_indexAddrS ((hv.at (by first | omega | (simp only [Int.natCast_eq_zero] at *; omega)) (by first | omega | (simp only [Int.natCast_eq_zero] at *; omega))).kids_.sl.hp hH59) underlying41 sizeOf43 rfl rfl (by first | omega | (simp only [Int.natCast_eq_zero] at *; omega))) ?_
          refine RL.gT rfl (bT h65) ?_
          refine V (run_ldE (dv := node0) nodeL_len ((hv.at (by first | omega | (simp only [Int.natCast_eq_zero] at *; omega)) (by first | omega | (simp only [Int.natCast_eq_zero] at *; omega))).kids_.sl.hp hH59) underlying43 rfl rfl rfl (by first | omega | (simp only [Int.natCast_eq_zero] at *; omega))) ?_
          refine RL.gT rfl (bT h65) ?_
          refine RL.callT rfl (ihG _ (List.mem_of_getElem? (getD_at (d := node0) h0 ‹k < _›)) _ (List.mem_of_getElem? (getD_at (d := node0) (i := 0) (by omega) (by omega))) _ (NodeV.mono hH59.kw ((hv.at h0 ‹_›).at (by omega) (by omega)))) (run_call1 call43 rfl) ?_
          rintro _ w68 ⟨⟨b71, rfl⟩, hb69⟩
          have hH70 := hH59.call hb69
          refine V (run_pickT (bT h65) (v := B _) rfl) ?_
          refine V (mV (B _) rfl) ?_
          refine RL.split (dj := 82) rfl (fun h73 => ?_) (fun h73 => ?_)
          ·refine RL.gT rfl (bR (c := true) h73) ?_
           refine V (fA underlying43 4 rfl sizeOf41 e6_52) ?_
           refine RL.gT rfl (bR (c := true) h73) ?_
           refine V (run_ldV ((hv.at (by first | omega | (simp only [Int.natCast_eq_zero] at *; omega)) (by first | omega | (simp only [Int.natCast_eq_zero] at *; omega))).kids_.sl.hp hH70) underlying41 rfl rfl (hH70.cell (i := 0) rfl rfl)) ?_
           refine RL.gT rfl (bR (c := true) h73) ?_
           refine V (run_indexAddrS ((hv.at (by first | omega | (simp only [Int.natCast_eq_zero] at *; omega)) (by first | omega | (simp only [Int.natCast_eq_zero] at *; omega))).kids_.sl.hp hH70) underlying41 sizeOf43 rfl rfl (by first | omega | (simp only [Int.natCast_eq_zero] at *; omega))) ?_
           refine RL.gT rfl (bR (c := true) h73) ?_
           refine V (fA underlying43 0 rfl sizeOf3 rfl) ?_
           refine RL.gT rfl (bR (c := true) h73) ?_
           refine V (run_ldE1 (dv := node0) (off := 0) nodeL_len ((hv.at (by first | omega | (simp only [Int.natCast_eq_zero] at *; omega)) (by first | omega | (simp only [Int.natCast_eq_zero] at *; omega))).kids_.sl.hp hH70) underlying3 rfl rfl (by first | omega | (simp only [Int.natCast_eq_zero] at *; omega)) rfl) ?_
           refine RL.gT rfl (bR (c := true) h73) ?_
           refine V (run_neq rfl rfl) ?_
           refine V (run_pickT (bR (c := true) h73) (v := B _) rfl) ?_
           refine V (mV (B _) rfl) ?_
           refine RL.splitP (dj := 90) rfl (fun h75 => ?_) (fun h75 => ?_)
           ·refine RL.gT rfl (bT h75) ?_
            refine V (fA underlying43 4 rfl sizeOf41 e6_52) ?_
            refine RL.gT rfl (bT h75) ?_
            refine V (run_ldV ((hv.at (by first | omega | (simp only [Int.natCast_eq_zero] at *; omega)) (by first | omega | (simp only [Int.natCast_eq_zero] at *; omega))).kids_.sl.hp hH70) underlying41 rfl rfl (hH70.cell (i := 0) rfl rfl)) ?_
            refine RL.gT rfl (bT h75) ?_
            refine V (run_indexAddrS ((hv.at (by first | omega | (simp only [Int.natCast_eq_zero] at *; omega)) (by first | omega | (simp only [Int.natCast_eq_zero] at *; omega))).kids_.sl.hp hH70) underlying41 sizeOf43 rfl rfl (by first | omega | (simp only [Int.natCast_eq_zero] at *; omega))) ?_
            refine RL.gT rfl (bT h75) ?_
            refine V (fA underlying43 0 rfl sizeOf3 rfl) ?_
            refine RL.gT rfl (bT h75) ?_
            refine V (run_ldE1 (dv := node0) (off := 0) nodeL_len ((hv.at (by first | omega | (simp only [Int.natCast_eq_zero] at *; omega)) (by first | omega | (simp only [Int.natCast_eq_zero] at *; omega))).kids_.sl.hp hH70) underlying3 rfl rfl (by first | omega | (simp only [Int.natCast_eq_zero] at *; omega)) rfl) ?_
            refine RL.gT rfl (bT h75) ?_
            refine V (run_neq rfl rfl) ?_
            refine V (run_pickT (bT h75) (v := B _) rfl) ?_
            refine V (aV (B _) rfl) ?_
            refine RL.nil ?_
            refine ⟨((Fr.refl _ _)).u4.u4.u4.u4.u4.u4.u4.u4.u4.u4.u4.u1.u1, _, hH70, rfl⟩
           ·refine RL.gF rfl rfl (bF h75) rfl ?_
            refine RL.gF rfl rfl (bF h75) rfl ?_
            refine RL.gF rfl rfl (bF h75) rfl ?_
            refine RL.gF rfl rfl (bF h75) rfl ?_
            refine RL.gF rfl rfl (bF h75) rfl ?_
            refine RL.gF rfl rfl (bF h75) rfl ?_
            refine V (run_pickF (bF h75) (v := B false) rfl) ?_
            refine V (aV (B _) rfl) ?_
            refine RL.nil ?_
            refine ⟨((Fr.refl _ _)).u4.u4.u4.u4.u4.u4.u4.u4.u4.u4.u4.u1.u1, _, hH70, rfl⟩
          ·refine RL.gF rfl rfl (bR (c := false) h73) rfl ?_
           refine RL.gF rfl rfl (bR (c := false) h73) rfl ?_
           refine RL.gF rfl rfl (bR (c := false) h73) rfl ?_
           refine RL.gF rfl rfl (bR (c := false) h73) rfl ?_
           refine RL.gF rfl rfl (bR (c := false) h73) rfl ?_
           refine RL.gF rfl rfl (bR (c := false) h73) rfl ?_
           refine V (run_pickF (bR (c := false) h73) (v := B false) rfl) ?_
           refine V (mV (B _) rfl) ?_
           refine RL.gF rfl rfl rfl rfl ?_
           refine RL.gF rfl rfl rfl rfl ?_
           refine RL.gF rfl rfl rfl rfl ?_
           refine RL.gF rfl rfl rfl rfl ?_
           refine RL.gF rfl rfl rfl rfl ?_
           refine RL.gF rfl rfl rfl rfl ?_
           refine V (run_pickF rfl (v := B false) rfl) ?_
           refine V (aV (B _) rfl) ?_
           refine RL.nil ?_
           refine ⟨((Fr.refl _ _)).u4.u4.u4.u4.u4.u4.u4.u4.u4.u4.u4.u1.u1, _, hH70, rfl⟩
         ·refine RL.gF rfl rfl (bF h65) rfl ?_
          refine RL.gF rfl rfl (bF h65) rfl ?_
          refine RL.gF rfl rfl (bF h65) rfl ?_
          refine RL.gF rfl rfl (bF h65) rfl ?_
          refine RL.gF rfl rfl (bF h65) rfl ?_
          refine V (run_pickF (bF h65) (v := B false) rfl) ?_
          refine V (mV (B _) rfl) ?_
          refine RL.gF rfl rfl rfl rfl ?_
          refine RL.gF rfl rfl rfl rfl ?_
          refine RL.gF rfl rfl rfl rfl ?_
          refine RL.gF rfl rfl rfl rfl ?_
          refine RL.gF rfl rfl rfl rfl ?_
          refine RL.gF rfl rfl rfl rfl ?_
          refine V (run_pickF rfl (v := B false) rfl) ?_
          refine V (mV (B _) rfl) ?_
          refine RL.gF rfl rfl rfl rfl ?_
          refine RL.gF rfl rfl rfl rfl ?_
          refine RL.gF rfl rfl rfl rfl ?_
          refine RL.gF rfl rfl rfl rfl ?_
          refine RL.gF rfl rfl rfl rfl ?_
          refine RL.gF rfl rfl rfl rfl ?_
          refine V (run_pickF rfl (v := B false) rfl) ?_
          refine V (aV (B _) rfl) ?_
          refine RL.nil ?_
          refine ⟨((Fr.refl _ _)).u4.u4.u4.u4.u4.u4.u4.u4.u4.u4.u4.u1.u1, _, hH59, rfl⟩
        ·refine RL.gF rfl rfl (bF h63) rfl ?_
         refine RL.gF rfl rfl (bF h63) rfl ?_
         refine RL.gF rfl rfl (bF h63) rfl ?_
         refine RL.gF rfl rfl (bF h63) rfl ?_
         refine V (run_pickF (bF h63) (v := B false) rfl) ?_
         refine V (mV (B _) rfl) ?_
         refine RL.gF rfl rfl rfl rfl ?_
         refine RL.gF rfl rfl rfl rfl ?_
         refine RL.gF rfl rfl rfl rfl ?_
         refine RL.gF rfl rfl rfl rfl ?_
         refine RL.gF rfl rfl rfl rfl ?_
         refine V (run_pickF rfl (v := B false) rfl) ?_
         refine V (mV (B _) rfl) ?_
         refine RL.gF rfl rfl rfl rfl ?_
         refine RL.gF rfl rfl rfl rfl ?_
         refine RL.gF rfl rfl rfl rfl ?_
         refine RL.gF rfl rfl rfl rfl ?_
         refine RL.gF rfl rfl rfl rfl ?_
         refine RL.gF rfl rfl rfl rfl ?_
         refine V (run_pickF rfl (v := B false) rfl) ?_
         refine V (mV (B _) rfl) ?_
         refine RL.gF rfl rfl rfl rfl ?_
         refine RL.gF rfl rfl rfl rfl ?_
         refine RL.gF rfl rfl rfl rfl ?_
         refine RL.gF rfl rfl rfl rfl ?_
         refine RL.gF rfl rfl rfl rfl ?_
         refine RL.gF rfl rfl rfl rfl ?_
         refine V (run_pickF rfl (v := B false) rfl) ?_
         refine V (aV (B _) rfl) ?_
         refine RL.nil ?_
         refine ⟨((Fr.refl _ _)).u4.u4.u4.u4.u4.u4.u4.u4.u4.u4.u4.u1.u1, _, hH59, rfl⟩
       ·refine RL.gF rfl rfl (bR (c := false) h61) rfl ?_
        refine RL.gF rfl rfl (bR (c := false) h61) rfl ?_
        refine RL.gF rfl rfl (bR (c := false) h61) rfl ?_
        refine RL.gF rfl rfl (bR (c := false) h61) rfl ?_
        refine V (run_pickF (bR (c := false) h61) (v := B false) rfl) ?_
        refine V (mV (B _) rfl) ?_
        refine RL.gF rfl rfl rfl rfl ?_
        refine RL.gF rfl rfl rfl rfl ?_
        refine RL.gF rfl rfl rfl rfl ?_
        refine RL.gF rfl rfl rfl rfl ?_
        refine V (run_pickF rfl (v := B false) rfl) ?_
        refine V (mV (B _) rfl) ?_
        refine RL.gF rfl rfl rfl rfl ?_
        refine RL.gF rfl rfl rfl rfl ?_
        refine RL.gF rfl rfl rfl rfl ?_
        refine RL.gF rfl rfl rfl rfl ?_
        refine RL.gF rfl rfl rfl rfl ?_
        refine V (run_pickF rfl (v := B false) rfl) ?_
        refine V (mV (B _) rfl) ?_
        refine RL.gF rfl rfl rfl rfl ?_
        refine RL.gF rfl rfl rfl rfl ?_
        refine RL.gF rfl rfl rfl rfl ?_
        refine RL.gF rfl rfl rfl rfl ?_
        refine RL.gF rfl rfl rfl rfl ?_
        refine RL.gF rfl rfl rfl rfl ?_
        refine V (run_pickF rfl (v := B false) rfl) ?_
        refine V (mV (B _) rfl) ?_
        refine RL.gF rfl rfl rfl rfl ?_
        refine RL.gF rfl rfl rfl rfl ?_
        refine RL.gF rfl rfl rfl rfl ?_
        refine RL.gF rfl rfl rfl rfl ?_
        refine RL.gF rfl rfl rfl rfl ?_
        refine RL.gF rfl rfl rfl rfl ?_
        refine V (run_pickF rfl (v := B false) rfl) ?_
        refine V (aV (B _) rfl) ?_
        refine RL.nil ?_
        refine ⟨((Fr.refl _ _)).u4.u4.u4.u4.u4.u4.u4.u4.u4.u4.u4.u1.u1, _, hH59, rfl⟩
      ·refine RL.gF rfl rfl (bF h57) rfl ?_
       refine RL.gF rfl rfl (bF h57) rfl ?_
       refine RL.gF rfl rfl (bF h57) rfl ?_
       refine V (run_pickF (bF h57) (v := B false) rfl) ?_
       refine V (mV (B _) rfl) ?_
       refine RL.gF rfl rfl rfl rfl ?_
       refine RL.gF rfl rfl rfl rfl ?_
       refine RL.gF rfl rfl rfl rfl ?_
       refine RL.gF rfl rfl rfl rfl ?_
       refine V (run_pickF rfl (v := B false) rfl) ?_
       refine V (mV (B _) rfl) ?_
       refine RL.gF rfl rfl rfl rfl ?_
       refine RL.gF rfl rfl rfl rfl ?_
       refine RL.gF rfl rfl rfl rfl ?_
       refine RL.gF rfl rfl rfl rfl ?_
       refine V (run_pickF rfl (v := B false) rfl) ?_
       refine V (mV (B _) rfl) ?_
       refine RL.gF rfl rfl rfl rfl ?_
       refine RL.gF rfl rfl rfl rfl ?_
       refine RL.gF rfl rfl rfl rfl ?_
       refine RL.gF rfl rfl rfl rfl ?_
       refine RL.gF rfl rfl rfl rfl ?_
       refine V (run_pickF rfl (v := B false) rfl) ?_
       refine V (mV (B _) rfl) ?_
       refine RL.gF rfl rfl rfl rfl ?_
       refine RL.gF rfl rfl rfl rfl ?_
       refine RL.gF rfl rfl rfl rfl ?_
       refine RL.gF rfl rfl rfl rfl ?_
       refine RL.gF rfl rfl rfl rfl ?_
       refine RL.gF rfl rfl rfl rfl ?_
       refine V (run_pickF rfl (v := B false) rfl) ?_
       refine V (mV (B _) rfl) ?_
       refine RL.gF rfl rfl rfl rfl ?_
       refine RL.gF rfl rfl rfl rfl ?_
       refine RL.gF rfl rfl rfl rfl ?_
       refine RL.gF rfl rfl rfl rfl ?_
       refine RL.gF rfl rfl rfl rfl ?_
       refine RL.gF rfl rfl rfl rfl ?_
       refine V (run_pickF rfl (v := B false) rfl) ?_
       refine V (aV (B _) rfl) ?_
       refine RL.nil ?_
       refine ⟨((Fr.refl _ _)).u4.u4.u4.u4.u4.u4.u4.u4.u4.u4.u4.u1.u1, _, hH52, rfl⟩
     ·refine CW.skip ?_
      refine ⟨((Fr.refl _ _)).u1.u1, _, hH52, (Eq.trans e7_52 rfl)⟩
    ·rintro x7 sg77 w77 fr77 hH77 e7_77
     have e0_77 := (fr77 0 rfl).trans e0_52
     have e1_77 := (fr77 1 rfl).trans e1_52
     have e5_77 := (fr77 5 rfl).trans e5_52
     have e6_77 := (fr77 6 rfl).trans e6_52
     have e8_77 := (fr77 8 rfl).trans e8_52
     have e9_77 := (fr77 9 rfl).trans e9_52
     have e10_77 := (fr77 10 rfl).trans e10_52
     have e11_77 := (fr77 11 rfl).trans e11_52
     have e14_77 := (fr77 14 rfl).trans e14_52
     have e15_77 := (fr77 15 rfl).trans e15_52
     have e16_77 := (fr77 16 rfl).trans e16_52
     have e17_77 := (fr77 17 rfl).trans e17_52
     refine SR ?_
     refine V (run_move e7_77) ?_
     refine V (run_not rfl) ?_
     refine RL.nil ?_
     refine CW.cond rfl (fun h80 => ?_) (fun h80 => ?_)
     ·refine SR ?_
      refine V (aV (B false) rfl) ?_
      refine RL.nil ?_
      refine CW.ret ?_
      exact out1 Tryd.results72 rfl ⟨⟨_, rfl⟩, hH77.below⟩
     ·refine CW.skip ?_
      refine CW.region ?_
      refine V (run_move e5_77) ?_
      refine V (run_add rfl rfl (by omega)) ?_
      refine V (aV (I _) rfl) ?_
      refine RL.nil ?_
      refine ⟨k + 1, ?_, (((((((fr1.u4.u4.u1).t fr37 rfl)).t fr52 rfl)).t fr77 rfl)).u4.u1, (hH77.sub (sQ sR)), (congrArg I (by first | rfl | omega)), ?_, ?_⟩
      ·((try dsimp only); omega)
      ·omega
      ·omega
 ·refine CW.exit (id := 0) rfl ?_
  refine SR ?_
  refine V (aV (B true) rfl) ?_
  refine RL.nil ?_
  refine CW.ret ?_
  exact out1 Tryd.results72 rfl ⟨⟨_, rfl⟩, hH1.below⟩

theorem s_IsConst (n : NodeR) (w : World) (hn : NodeV (Kw w) n) (hA : ∀ (what : Int) (v : Value) (w : World), Sl w v 5 n.kids.length (n.kids.flatMap nodeL) → NodesV (Kw w) n.kids → Calls Tryd.prog 72 #[I what, v] w (Ret fun u w' => (∃ b : Bool, u = B b) ∧ Below w.heap.size w w')) : Calls Tryd.prog 95 #[.agg (nodeL n).toArray] w (Ret fun u w' => (∃ b : Bool, u = B b) ∧ Below w.heap.size w w') := by
 have hm1 := hn.kids_.small
 have hm2 := hn.names_.small
 unfold maxLen at hm1 hm2
 refine enter Tryd.func95 rfl Tryd.ntmps95 rfl ?_
 have hH := Hp.start w
 refine SR ?_
 refine RL.new rfl hH (f := fun b => (.pointer (some ⟨b, 0, none⟩))) (run_box (v := .agg _) rfl) ?_
 intro b3 w1 hH2
 refine V (aV (B false) rfl) ?_
 refine RL.nil ?_
 refine CW.seq ?_
 refine SR ?_
 refine V (fA underlying43 0 rfl sizeOf3 rfl) ?_
 refine V (run_ld underlying3 rfl rfl (hH2.cell (i := 0) rfl (v := I _) rfl)) ?_
 refine RL.nil ?_
 refine CW.block ?_
 refine SR ?_
 refine V (run_eql rfl rfl) ?_
 refine V (aV (B _) rfl) ?_
 refine RL.nil ?_
 refine CW.condP rfl (fun h5 => ?_) (fun h5 => ?_)
 ·refine SR ?_
  refine V (fA underlying43 2 rfl sizeOf9 rfl) ?_
  refine V (run_ld underlying9 rfl rfl (hH2.cell (i := 0) rfl (v := .string _) rfl)) ?_
  refine RL.callP rfl hH2 (c_clearanceref02_Right _  _) (run_call1 call42 rfl) ?_
  intro w6 hH7
  refine V (mV (B _) rfl) ?_
  refine RL.split (dj := 10) rfl (fun h9 => ?_) (fun h9 => ?_)
  ·refine RL.gT rfl (bR (c := true) h9) ?_
   refine V (fA underlying43 3 rfl sizeOf39 rfl) ?_
   refine RL.gT rfl (bR (c := true) h9) ?_
   refine V (run_ldV (hn.names_.sl.hp hH7) underlying39 rfl rfl (hH7.cell (i := 0) rfl rfl)) ?_
   refine RL.gT rfl (bR (c := true) h9) ?_
   refine V (run_lenSl (hn.names_.sl.hp hH7) rfl underlying39 rfl) ?_
   refine RL.gT rfl (bR (c := true) h9) ?_
   refine V (fA underlying43 4 rfl sizeOf41 rfl) ?_
   refine RL.gT rfl (bR (c := true) h9) ?_
   refine V (run_ldV (hn.kids_.sl.hp hH7) underlying41 rfl rfl (hH7.cell (i := 0) rfl rfl)) ?_
   refine RL.gT rfl (bR (c := true) h9) ?_
   refine V (run_lenSl (hn.kids_.sl.hp hH7) rfl underlying41 rfl) ?_
   refine RL.gT rfl (bR (c := true) h9) ?_
   refine V (run_addW rfl rfl) ?_
   refine RL.gT rfl (bR (c := true) h9) ?_
   refine V (run_eql rfl rfl) ?_
   refine V (run_pickT (bR (c := true) h9) (v := B _) rfl) ?_
   refine V (aV (B _) rfl) ?_
   refine RL.nil ?_
   refine CW.ret ?_
   exact out1 Tryd.results95 rfl ⟨⟨_, rfl⟩, hH7.below⟩
  ·refine RL.gF rfl rfl (bR (c := false) h9) rfl ?_
   refine RL.gF rfl rfl (bR (c := false) h9) rfl ?_
   refine RL.gF rfl rfl (bR (c := false) h9) rfl ?_
   refine RL.gF rfl rfl (bR (c := false) h9) rfl ?_
   refine RL.gF rfl rfl (bR (c := false) h9) rfl ?_
   refine RL.gF rfl rfl (bR (c := false) h9) rfl ?_
   refine RL.gF rfl rfl (bR (c := false) h9) rfl ?_
   refine RL.gF rfl rfl (bR (c := false) h9) rfl ?_
   refine V (run_pickF (bR (c := false) h9) (v := B false) rfl) ?_
   refine V (aV (B _) rfl) ?_
   refine RL.nil ?_
   refine CW.ret ?_
   exact out1 Tryd.results95 rfl ⟨⟨_, rfl⟩, hH7.below⟩
 ·refine SR ?_
  refine V (run_eql rfl rfl) ?_
  refine V (aV (B _) rfl) ?_
  refine RL.nil ?_
  refine CW.condP rfl (fun h12 => ?_) (fun h12 => ?_)
  ·refine SR ?_
   refine V (fA underlying43 2 rfl sizeOf9 rfl) ?_
   refine V (run_ld underlying9 rfl rfl (hH2.cell (i := 0) rfl (v := .string _) rfl)) ?_
   refine V (run_eqlS rfl rfl) ?_
   refine V (mV (B _) rfl) ?_
   refine RL.splitP (dj := 25) rfl (fun h14 => ?_) (fun h14 => ?_)
   ·refine RL.gT rfl (bT h14) ?_
    refine V (fA underlying43 3 rfl sizeOf39 rfl) ?_
    refine RL.gT rfl (bT h14) ?_
    refine V (run_ldV (hn.names_.sl.hp hH2) underlying39 rfl rfl (hH2.cell (i := 0) rfl rfl)) ?_
    refine RL.gT rfl (bT h14) ?_
    refine RL.callP rfl hH2 (c_clearanceref10_right _ _  _ (hn.names_.sl.hp hH2)) (run_call1 call73 rfl) ?_
    intro w15 hH16
    refine V (run_pickT (bT h14) (v := B _) rfl) ?_
    refine V (mV (B _) rfl) ?_
    refine RL.split (dj := 30) rfl (fun h18 => ?_) (fun h18 => ?_)
    ·refine RL.gT rfl (bR (c := true) h18) ?_
     refine V (fA underlying43 4 rfl sizeOf41 rfl) ?_
     refine RL.gT rfl (bR (c := true) h18) ?_
     refine V (run_ldV (hn.kids_.sl.hp hH16) underlying41 rfl rfl (hH16.cell (i := 0) rfl rfl)) ?_
     refine RL.gT rfl (bR (c := true) h18) ?_
     refine V (run_lenSl (hn.kids_.sl.hp hH16) rfl underlying41 rfl) ?_
     refine RL.gT rfl (bR (c := true) h18) ?_
     refine V (run_eql rfl rfl) ?_
     refine V (run_pickT (bR (c := true) h18) (v := B _) rfl) ?_
     refine V (aV (B _) rfl) ?_
     refine RL.nil ?_
     refine CW.ret ?_
     exact out1 Tryd.results95 rfl ⟨⟨_, rfl⟩, hH16.below⟩
    ·refine RL.gF rfl rfl (bR (c := false) h18) rfl ?_
     refine RL.gF rfl rfl (bR (c := false) h18) rfl ?_
     refine RL.gF rfl rfl (bR (c := false) h18) rfl ?_
     refine RL.gF rfl rfl (bR (c := false) h18) rfl ?_
     refine V (run_pickF (bR (c := false) h18) (v := B false) rfl) ?_
     refine V (aV (B _) rfl) ?_
     refine RL.nil ?_
     refine CW.ret ?_
     exact out1 Tryd.results95 rfl ⟨⟨_, rfl⟩, hH16.below⟩
   ·refine RL.gF rfl rfl (bF h14) rfl ?_
    refine RL.gF rfl rfl (bF h14) rfl ?_
    refine RL.gF rfl rfl (bF h14) rfl ?_
    refine V (run_pickF (bF h14) (v := B false) rfl) ?_
    refine V (mV (B _) rfl) ?_
    refine RL.gF rfl rfl rfl rfl ?_
    refine RL.gF rfl rfl rfl rfl ?_
    refine RL.gF rfl rfl rfl rfl ?_
    refine RL.gF rfl rfl rfl rfl ?_
    refine V (run_pickF rfl (v := B false) rfl) ?_
    refine V (aV (B _) rfl) ?_
    refine RL.nil ?_
    refine CW.ret ?_
    exact out1 Tryd.results95 rfl ⟨⟨_, rfl⟩, hH2.below⟩
  ·refine SR ?_
   refine V (run_eql rfl rfl) ?_
   refine V (aV (B _) rfl) ?_
   refine RL.nil ?_
   refine CW.condP rfl (fun h21 => ?_) (fun h21 => ?_)
   ·refine SR ?_
    refine V (fA underlying43 2 rfl sizeOf9 rfl) ?_
    refine V (run_ld underlying9 rfl rfl (hH2.cell (i := 0) rfl (v := .string _) rfl)) ?_
    refine V (run_eqlS rfl rfl) ?_
    refine V (mV (B _) rfl) ?_
    refine RL.splitP (dj := 41) rfl (fun h23 => ?_) (fun h23 => ?_)
    ·refine RL.gT rfl (bT h23) ?_
     refine V (fA underlying43 3 rfl sizeOf39 rfl) ?_
     refine RL.gT rfl (bT h23) ?_
     refine V (run_ldV (hn.names_.sl.hp hH2) underlying39 rfl rfl (hH2.cell (i := 0) rfl rfl)) ?_
     refine RL.gT rfl (bT h23) ?_
     refine V (run_lenSl (hn.names_.sl.hp hH2) rfl underlying39 rfl) ?_
     refine RL.gT rfl (bT h23) ?_
     refine V (run_eql rfl rfl) ?_
     refine V (run_pickT (bT h23) (v := B _) rfl) ?_
     refine V (mV (B _) rfl) ?_
     refine RL.splitP (dj := 47) rfl (fun h25 => ?_) (fun h25 => ?_)
     ·refine RL.gT rfl (bT h25) ?_
      refine V (fA underlying43 4 rfl sizeOf41 rfl) ?_
      refine RL.gT rfl (bT h25) ?_
      refine V (run_ldV (hn.kids_.sl.hp hH2) underlying41 rfl rfl (hH2.cell (i := 0) rfl rfl)) ?_
      refine RL.gT rfl (bT h25) ?_
      refine V (run_lenSl (hn.kids_.sl.hp hH2) rfl underlying41 rfl) ?_
      refine RL.gT rfl (bT h25) ?_
      refine V (run_gtr rfl rfl) ?_
      refine V (run_pickT (bT h25) (v := B _) rfl) ?_
      refine V (mV (B _) rfl) ?_
      refine RL.splitP (dj := 53) rfl (fun h27 => ?_) (fun h27 => ?_)
      ·refine RL.gT rfl (bT h27) ?_
       refine V (fA underlying43 4 rfl sizeOf41 rfl) ?_
       refine RL.gT rfl (bT h27) ?_
       refine V (run_ldV (hn.kids_.sl.hp hH2) underlying41 rfl rfl (hH2.cell (i := 0) rfl rfl)) ?_
       refine RL.gT rfl (bT h27) ?_
       refine RL.callT rfl (hA 1 _ _ (hn.kids_.sl.hp hH2) ⟨(NodeV.mono hH2.kw hn).each⟩) (run_call2 call72 (show _ = I 1 from rfl) rfl) ?_
       rintro _ w30 ⟨⟨b33, rfl⟩, hb31⟩
       have hH32 := hH2.call hb31
       refine V (run_pickT (bT h27) (v := B _) rfl) ?_
       refine V (aV (B _) rfl) ?_
       refine RL.nil ?_
       refine CW.ret ?_
       exact out1 Tryd.results95 rfl ⟨⟨_, rfl⟩, hH32.below⟩
      ·refine RL.gF rfl rfl (bF h27) rfl ?_
       refine RL.gF rfl rfl (bF h27) rfl ?_
       refine RL.gF rfl rfl (bF h27) rfl ?_
       refine V (run_pickF (bF h27) (v := B false) rfl) ?_
       refine V (aV (B _) rfl) ?_
       refine RL.nil ?_
       refine CW.ret ?_
       exact out1 Tryd.results95 rfl ⟨⟨_, rfl⟩, hH2.below⟩
     ·refine RL.gF rfl rfl (bF h25) rfl ?_
      refine RL.gF rfl rfl (bF h25) rfl ?_
      refine RL.gF rfl rfl (bF h25) rfl ?_
      refine RL.gF rfl rfl (bF h25) rfl ?_
      refine V (run_pickF (bF h25) (v := B false) rfl) ?_
      refine V (mV (B _) rfl) ?_
      refine RL.gF rfl rfl rfl rfl ?_
      refine RL.gF rfl rfl rfl rfl ?_
      refine RL.gF rfl rfl rfl rfl ?_
      refine V (run_pickF rfl (v := B false) rfl) ?_
      refine V (aV (B _) rfl) ?_
      refine RL.nil ?_
      refine CW.ret ?_
      exact out1 Tryd.results95 rfl ⟨⟨_, rfl⟩, hH2.below⟩
    ·refine RL.gF rfl rfl (bF h23) rfl ?_
     refine RL.gF rfl rfl (bF h23) rfl ?_
     refine RL.gF rfl rfl (bF h23) rfl ?_
     refine RL.gF rfl rfl (bF h23) rfl ?_
     refine V (run_pickF (bF h23) (v := B false) rfl) ?_
     refine V (mV (B _) rfl) ?_
     refine RL.gF rfl rfl rfl rfl ?_
     refine RL.gF rfl rfl rfl rfl ?_
     refine RL.gF rfl rfl rfl rfl ?_
     refine RL.gF rfl rfl rfl rfl ?_
     refine V (run_pickF rfl (v := B false) rfl) ?_
     refine V (mV (B _) rfl) ?_
     refine RL.gF rfl rfl rfl rfl ?_
     refine RL.gF rfl rfl rfl rfl ?_
     refine RL.gF rfl rfl rfl rfl ?_
     refine V (run_pickF rfl (v := B false) rfl) ?_
     refine V (aV (B _) rfl) ?_
     refine RL.nil ?_
     refine CW.ret ?_
     exact out1 Tryd.results95 rfl ⟨⟨_, rfl⟩, hH2.below⟩
   ·refine SR ?_
    refine V (run_eql rfl rfl) ?_
    refine V (aV (B _) rfl) ?_
    refine RL.nil ?_
    refine CW.condP rfl (fun h36 => ?_) (fun h36 => ?_)
    ·refine SR ?_
     refine V (fA underlying43 2 rfl sizeOf9 rfl) ?_
     refine V (run_ld underlying9 rfl rfl (hH2.cell (i := 0) rfl (v := .string _) rfl)) ?_
     refine V (run_eqlS rfl rfl) ?_
     refine V (mV (B _) rfl) ?_
     refine RL.splitP (dj := 63) rfl (fun h38 => ?_) (fun h38 => ?_)
     ·refine RL.gT rfl (bT h38) ?_
      refine V (fA underlying43 3 rfl sizeOf39 rfl) ?_
      refine RL.gT rfl (bT h38) ?_
      refine V (run_ldV (hn.names_.sl.hp hH2) underlying39 rfl rfl (hH2.cell (i := 0) rfl rfl)) ?_
      refine RL.gT rfl (bT h38) ?_
      refine V (run_lenSl (hn.names_.sl.hp hH2) rfl underlying39 rfl) ?_
      refine RL.gT rfl (bT h38) ?_
      refine V (run_eql rfl rfl) ?_
      refine V (run_pickT (bT h38) (v := B _) rfl) ?_
      refine V (mV (B _) rfl) ?_
      refine RL.splitP (dj := 69) rfl (fun h40 => ?_) (fun h40 => ?_)
      ·refine RL.gT rfl (bT h40) ?_
       refine V (fA underlying43 4 rfl sizeOf41 rfl) ?_
       refine RL.gT rfl (bT h40) ?_
       refine V (run_ldV (hn.kids_.sl.hp hH2) underlying41 rfl rfl (hH2.cell (i := 0) rfl rfl)) ?_
       refine RL.gT rfl (bT h40) ?_
       refine RL.callT rfl (hA 2 _ _ (hn.kids_.sl.hp hH2) ⟨(NodeV.mono hH2.kw hn).each⟩) (run_call2 call72 (show _ = I 2 from rfl) rfl) ?_
       rintro _ w43 ⟨⟨b46, rfl⟩, hb44⟩
       have hH45 := hH2.call hb44
       refine V (run_pickT (bT h40) (v := B _) rfl) ?_
       refine V (aV (B _) rfl) ?_
       refine RL.nil ?_
       refine CW.ret ?_
       exact out1 Tryd.results95 rfl ⟨⟨_, rfl⟩, hH45.below⟩
      ·refine RL.gF rfl rfl (bF h40) rfl ?_
       refine RL.gF rfl rfl (bF h40) rfl ?_
       refine RL.gF rfl rfl (bF h40) rfl ?_
       refine V (run_pickF (bF h40) (v := B false) rfl) ?_
       refine V (aV (B _) rfl) ?_
       refine RL.nil ?_
       refine CW.ret ?_
       exact out1 Tryd.results95 rfl ⟨⟨_, rfl⟩, hH2.below⟩
     ·refine RL.gF rfl rfl (bF h38) rfl ?_
      refine RL.gF rfl rfl (bF h38) rfl ?_
      refine RL.gF rfl rfl (bF h38) rfl ?_
      refine RL.gF rfl rfl (bF h38) rfl ?_
      refine V (run_pickF (bF h38) (v := B false) rfl) ?_
      refine V (mV (B _) rfl) ?_
      refine RL.gF rfl rfl rfl rfl ?_
      refine RL.gF rfl rfl rfl rfl ?_
      refine RL.gF rfl rfl rfl rfl ?_
      refine V (run_pickF rfl (v := B false) rfl) ?_
      refine V (aV (B _) rfl) ?_
      refine RL.nil ?_
      refine CW.ret ?_
      exact out1 Tryd.results95 rfl ⟨⟨_, rfl⟩, hH2.below⟩
    ·refine CW.skip ?_
     refine SR ?_
     refine V (aV (B false) rfl) ?_
     refine RL.nil ?_
     refine CW.ret ?_
     exact out1 Tryd.results95 rfl ⟨⟨_, rfl⟩, hH2.below⟩

theorem s_IsLabel (n : NodeR) (w : World) (hn : NodeV (Kw w) n) (hA : ∀ (what : Int) (v : Value) (w : World), Sl w v 5 n.kids.length (n.kids.flatMap nodeL) → NodesV (Kw w) n.kids → Calls Tryd.prog 72 #[I what, v] w (Ret fun u w' => (∃ b : Bool, u = B b) ∧ Below w.heap.size w w')) : Calls Tryd.prog 43 #[.agg (nodeL n).toArray] w (Ret fun u w' => (∃ b : Bool, u = B b) ∧ Below w.heap.size w w') := by
 have hm1 := hn.kids_.small
 have hm2 := hn.names_.small
 unfold maxLen at hm1 hm2
 refine enter Tryd.func43 rfl Tryd.ntmps43 rfl ?_
 have hH := Hp.start w
 refine SR ?_
 refine RL.new rfl hH (f := fun b => (.pointer (some ⟨b, 0, none⟩))) (run_box (v := .agg _) rfl) ?_
 intro b3 w1 hH2
 refine V (aV (B false) rfl) ?_
 refine RL.nil ?_
 refine CW.seq ?_
 refine SR ?_
 refine V (fA underlying43 0 rfl sizeOf3 rfl) ?_
 refine V (run_ld underlying3 rfl rfl (hH2.cell (i := 0) rfl (v := I _) rfl)) ?_
 refine RL.nil ?_
 refine CW.block ?_
 refine SR ?_
 refine V (run_eql rfl rfl) ?_
 refine V (aV (B _) rfl) ?_
 refine RL.nil ?_
 refine CW.condP rfl (fun h5 => ?_) (fun h5 => ?_)
 ·refine SR ?_
  refine V (fA underlying43 2 rfl sizeOf9 rfl) ?_
  refine V (run_ld underlying9 rfl rfl (hH2.cell (i := 0) rfl (v := .string _) rfl)) ?_
  refine RL.callP rfl hH2 (c_clearanceref02_Right _  _) (run_call1 call42 rfl) ?_
  intro w6 hH7
  refine V (mV (B _) rfl) ?_
  refine RL.split (dj := 10) rfl (fun h9 => ?_) (fun h9 => ?_)
  ·refine RL.gT rfl (bR (c := true) h9) ?_
   refine V (fA underlying43 3 rfl sizeOf39 rfl) ?_
   refine RL.gT rfl (bR (c := true) h9) ?_
   refine V (run_ldV (hn.names_.sl.hp hH7) underlying39 rfl rfl (hH7.cell (i := 0) rfl rfl)) ?_
   refine RL.gT rfl (bR (c := true) h9) ?_
   refine V (run_lenSl (hn.names_.sl.hp hH7) rfl underlying39 rfl) ?_
   refine RL.gT rfl (bR (c := true) h9) ?_
   refine V (fA underlying43 4 rfl sizeOf41 rfl) ?_
   refine RL.gT rfl (bR (c := true) h9) ?_
   refine V (run_ldV (hn.kids_.sl.hp hH7) underlying41 rfl rfl (hH7.cell (i := 0) rfl rfl)) ?_
   refine RL.gT rfl (bR (c := true) h9) ?_
   refine V (run_lenSl (hn.kids_.sl.hp hH7) rfl underlying41 rfl) ?_
   refine RL.gT rfl (bR (c := true) h9) ?_
   refine V (run_addW rfl rfl) ?_
   refine RL.gT rfl (bR (c := true) h9) ?_
   refine V (run_eql rfl rfl) ?_
   refine V (run_pickT (bR (c := true) h9) (v := B _) rfl) ?_
   refine V (aV (B _) rfl) ?_
   refine RL.nil ?_
   refine CW.ret ?_
   exact out1 Tryd.results43 rfl ⟨⟨_, rfl⟩, hH7.below⟩
  ·refine RL.gF rfl rfl (bR (c := false) h9) rfl ?_
   refine RL.gF rfl rfl (bR (c := false) h9) rfl ?_
   refine RL.gF rfl rfl (bR (c := false) h9) rfl ?_
   refine RL.gF rfl rfl (bR (c := false) h9) rfl ?_
   refine RL.gF rfl rfl (bR (c := false) h9) rfl ?_
   refine RL.gF rfl rfl (bR (c := false) h9) rfl ?_
   refine RL.gF rfl rfl (bR (c := false) h9) rfl ?_
   refine RL.gF rfl rfl (bR (c := false) h9) rfl ?_
   refine V (run_pickF (bR (c := false) h9) (v := B false) rfl) ?_
   refine V (aV (B _) rfl) ?_
   refine RL.nil ?_
   refine CW.ret ?_
   exact out1 Tryd.results43 rfl ⟨⟨_, rfl⟩, hH7.below⟩
 ·refine SR ?_
  refine V (run_eql rfl rfl) ?_
  refine V (aV (B _) rfl) ?_
  refine RL.nil ?_
  refine CW.condP rfl (fun h12 => ?_) (fun h12 => ?_)
  ·refine SR ?_
   refine V (fA underlying43 2 rfl sizeOf9 rfl) ?_
   refine V (run_ld underlying9 rfl rfl (hH2.cell (i := 0) rfl (v := .string _) rfl)) ?_
   refine V (run_eqlS rfl rfl) ?_
   refine V (mV (B _) rfl) ?_
   refine RL.splitP (dj := 25) rfl (fun h14 => ?_) (fun h14 => ?_)
   ·refine RL.gT rfl (bT h14) ?_
    refine V (fA underlying43 3 rfl sizeOf39 rfl) ?_
    refine RL.gT rfl (bT h14) ?_
    refine V (run_ldV (hn.names_.sl.hp hH2) underlying39 rfl rfl (hH2.cell (i := 0) rfl rfl)) ?_
    refine RL.gT rfl (bT h14) ?_
    refine V (run_lenSl (hn.names_.sl.hp hH2) rfl underlying39 rfl) ?_
    refine RL.gT rfl (bT h14) ?_
    refine V (run_eql rfl rfl) ?_
    refine V (run_pickT (bT h14) (v := B _) rfl) ?_
    refine V (mV (B _) rfl) ?_
    refine RL.splitP (dj := 31) rfl (fun h16 => ?_) (fun h16 => ?_)
    ·refine RL.gT rfl (bT h16) ?_
     refine V (fA underlying43 4 rfl sizeOf41 rfl) ?_
     refine RL.gT rfl (bT h16) ?_
     refine V (run_ldV (hn.kids_.sl.hp hH2) underlying41 rfl rfl (hH2.cell (i := 0) rfl rfl)) ?_
     refine RL.gT rfl (bT h16) ?_
     refine V (run_lenSl (hn.kids_.sl.hp hH2) rfl underlying41 rfl) ?_
     refine RL.gT rfl (bT h16) ?_
     refine V (run_eql rfl rfl) ?_
     refine V (run_pickT (bT h16) (v := B _) rfl) ?_
     refine V (mV (B _) rfl) ?_
     refine RL.splitP (dj := 37) rfl (fun h18 => ?_) (fun h18 => ?_)
     ·refine RL.gT rfl (bT h18) ?_
      refine V (fA underlying43 4 rfl sizeOf41 rfl) ?_
      refine RL.gT rfl (bT h18) ?_
      refine V (run_ldV (hn.kids_.sl.hp hH2) underlying41 rfl rfl (hH2.cell (i := 0) rfl rfl)) ?_
      refine RL.gT rfl (bT h18) ?_
      refine RL.callT rfl (hA 1 _ _ (hn.kids_.sl.hp hH2) ⟨(NodeV.mono hH2.kw hn).each⟩) (run_call2 call72 (show _ = I 1 from rfl) rfl) ?_
      rintro _ w21 ⟨⟨b24, rfl⟩, hb22⟩
      have hH23 := hH2.call hb22
      refine V (run_pickT (bT h18) (v := B _) rfl) ?_
      refine V (aV (B _) rfl) ?_
      refine RL.nil ?_
      refine CW.ret ?_
      exact out1 Tryd.results43 rfl ⟨⟨_, rfl⟩, hH23.below⟩
     ·refine RL.gF rfl rfl (bF h18) rfl ?_
      refine RL.gF rfl rfl (bF h18) rfl ?_
      refine RL.gF rfl rfl (bF h18) rfl ?_
      refine V (run_pickF (bF h18) (v := B false) rfl) ?_
      refine V (aV (B _) rfl) ?_
      refine RL.nil ?_
      refine CW.ret ?_
      exact out1 Tryd.results43 rfl ⟨⟨_, rfl⟩, hH2.below⟩
    ·refine RL.gF rfl rfl (bF h16) rfl ?_
     refine RL.gF rfl rfl (bF h16) rfl ?_
     refine RL.gF rfl rfl (bF h16) rfl ?_
     refine RL.gF rfl rfl (bF h16) rfl ?_
     refine V (run_pickF (bF h16) (v := B false) rfl) ?_
     refine V (mV (B _) rfl) ?_
     refine RL.gF rfl rfl rfl rfl ?_
     refine RL.gF rfl rfl rfl rfl ?_
     refine RL.gF rfl rfl rfl rfl ?_
     refine V (run_pickF rfl (v := B false) rfl) ?_
     refine V (aV (B _) rfl) ?_
     refine RL.nil ?_
     refine CW.ret ?_
     exact out1 Tryd.results43 rfl ⟨⟨_, rfl⟩, hH2.below⟩
   ·refine RL.gF rfl rfl (bF h14) rfl ?_
    refine RL.gF rfl rfl (bF h14) rfl ?_
    refine RL.gF rfl rfl (bF h14) rfl ?_
    refine RL.gF rfl rfl (bF h14) rfl ?_
    refine V (run_pickF (bF h14) (v := B false) rfl) ?_
    refine V (mV (B _) rfl) ?_
    refine RL.gF rfl rfl rfl rfl ?_
    refine RL.gF rfl rfl rfl rfl ?_
    refine RL.gF rfl rfl rfl rfl ?_
    refine RL.gF rfl rfl rfl rfl ?_
    refine V (run_pickF rfl (v := B false) rfl) ?_
    refine V (mV (B _) rfl) ?_
    refine RL.gF rfl rfl rfl rfl ?_
    refine RL.gF rfl rfl rfl rfl ?_
    refine RL.gF rfl rfl rfl rfl ?_
    refine V (run_pickF rfl (v := B false) rfl) ?_
    refine V (aV (B _) rfl) ?_
    refine RL.nil ?_
    refine CW.ret ?_
    exact out1 Tryd.results43 rfl ⟨⟨_, rfl⟩, hH2.below⟩
  ·refine CW.seq ?_
   refine SR ?_
   refine V (run_eql rfl rfl) ?_
   refine V (aV (B _) rfl) ?_
   refine RL.nil ?_
   refine CW.condP rfl (fun h27 => ?_) (fun h27 => ?_)
   ·refine CW.skip ?_
    refine CW.condT (bT h27) ?_
    refine SR ?_
    refine V (fA underlying43 2 rfl sizeOf9 rfl) ?_
    refine V (run_ld underlying9 rfl rfl (hH2.cell (i := 0) rfl (v := .string _) rfl)) ?_
    refine V (run_eqlS rfl rfl) ?_
    refine V (mV (B _) rfl) ?_
    refine RL.splitP (dj := 48) rfl (fun h29 => ?_) (fun h29 => ?_)
    ·refine RL.gT rfl (bT h29) ?_
     refine V (fA underlying43 3 rfl sizeOf39 rfl) ?_
     refine RL.gT rfl (bT h29) ?_
     refine V (run_ldV (hn.names_.sl.hp hH2) underlying39 rfl rfl (hH2.cell (i := 0) rfl rfl)) ?_
     refine RL.gT rfl (bT h29) ?_
     refine V (run_lenSl (hn.names_.sl.hp hH2) rfl underlying39 rfl) ?_
     refine RL.gT rfl (bT h29) ?_
     refine V (run_eql rfl rfl) ?_
     refine V (run_pickT (bT h29) (v := B _) rfl) ?_
     refine V (mV (B _) rfl) ?_
     refine RL.splitP (dj := 54) rfl (fun h31 => ?_) (fun h31 => ?_)
     ·refine RL.gT rfl (bT h31) ?_
      refine V (fA underlying43 4 rfl sizeOf41 rfl) ?_
      refine RL.gT rfl (bT h31) ?_
      refine V (run_ldV (hn.kids_.sl.hp hH2) underlying41 rfl rfl (hH2.cell (i := 0) rfl rfl)) ?_
      refine RL.gT rfl (bT h31) ?_
      refine V (run_lenSl (hn.kids_.sl.hp hH2) rfl underlying41 rfl) ?_
      refine RL.gT rfl (bT h31) ?_
      refine V (run_gtr rfl rfl) ?_
      refine V (run_pickT (bT h31) (v := B _) rfl) ?_
      refine V (mV (B _) rfl) ?_
      refine RL.splitP (dj := 60) rfl (fun h33 => ?_) (fun h33 => ?_)
      ·refine RL.gT rfl (bT h33) ?_
       refine V (fA underlying43 4 rfl sizeOf41 rfl) ?_
       refine RL.gT rfl (bT h33) ?_
       refine V (run_ldV (hn.kids_.sl.hp hH2) underlying41 rfl rfl (hH2.cell (i := 0) rfl rfl)) ?_
       refine RL.gT rfl (bT h33) ?_
       refine RL.callT rfl (hA 3 _ _ (hn.kids_.sl.hp hH2) ⟨(NodeV.mono hH2.kw hn).each⟩) (run_call2 call72 (show _ = I 3 from rfl) rfl) ?_
       rintro _ w36 ⟨⟨b39, rfl⟩, hb37⟩
       have hH38 := hH2.call hb37
       refine V (run_pickT (bT h33) (v := B _) rfl) ?_
       refine V (aV (B _) rfl) ?_
       refine RL.nil ?_
       refine CW.ret ?_
       exact out1 Tryd.results43 rfl ⟨⟨_, rfl⟩, hH38.below⟩
      ·refine RL.gF rfl rfl (bF h33) rfl ?_
       refine RL.gF rfl rfl (bF h33) rfl ?_
       refine RL.gF rfl rfl (bF h33) rfl ?_
       refine V (run_pickF (bF h33) (v := B false) rfl) ?_
       refine V (aV (B _) rfl) ?_
       refine RL.nil ?_
       refine CW.ret ?_
       exact out1 Tryd.results43 rfl ⟨⟨_, rfl⟩, hH2.below⟩
     ·refine RL.gF rfl rfl (bF h31) rfl ?_
      refine RL.gF rfl rfl (bF h31) rfl ?_
      refine RL.gF rfl rfl (bF h31) rfl ?_
      refine RL.gF rfl rfl (bF h31) rfl ?_
      refine V (run_pickF (bF h31) (v := B false) rfl) ?_
      refine V (mV (B _) rfl) ?_
      refine RL.gF rfl rfl rfl rfl ?_
      refine RL.gF rfl rfl rfl rfl ?_
      refine RL.gF rfl rfl rfl rfl ?_
      refine V (run_pickF rfl (v := B false) rfl) ?_
      refine V (aV (B _) rfl) ?_
      refine RL.nil ?_
      refine CW.ret ?_
      exact out1 Tryd.results43 rfl ⟨⟨_, rfl⟩, hH2.below⟩
    ·refine RL.gF rfl rfl (bF h29) rfl ?_
     refine RL.gF rfl rfl (bF h29) rfl ?_
     refine RL.gF rfl rfl (bF h29) rfl ?_
     refine RL.gF rfl rfl (bF h29) rfl ?_
     refine V (run_pickF (bF h29) (v := B false) rfl) ?_
     refine V (mV (B _) rfl) ?_
     refine RL.gF rfl rfl rfl rfl ?_
     refine RL.gF rfl rfl rfl rfl ?_
     refine RL.gF rfl rfl rfl rfl ?_
     refine RL.gF rfl rfl rfl rfl ?_
     refine V (run_pickF rfl (v := B false) rfl) ?_
     refine V (mV (B _) rfl) ?_
     refine RL.gF rfl rfl rfl rfl ?_
     refine RL.gF rfl rfl rfl rfl ?_
     refine RL.gF rfl rfl rfl rfl ?_
     refine V (run_pickF rfl (v := B false) rfl) ?_
     refine V (aV (B _) rfl) ?_
     refine RL.nil ?_
     refine CW.ret ?_
     exact out1 Tryd.results43 rfl ⟨⟨_, rfl⟩, hH2.below⟩
   ·refine CW.region ?_
    refine V (run_eql rfl rfl) ?_
    refine V (aV (B _) rfl) ?_
    refine RL.nil ?_
    refine CW.condP rfl (fun h42 => ?_) (fun h42 => ?_)
    ·refine SR ?_
     refine V (fA underlying43 2 rfl sizeOf9 rfl) ?_
     refine V (run_ld underlying9 rfl rfl (hH2.cell (i := 0) rfl (v := .string _) rfl)) ?_
     refine V (run_eqlS rfl rfl) ?_
     refine V (mV (B _) rfl) ?_
     refine RL.splitP (dj := 48) rfl (fun h44 => ?_) (fun h44 => ?_)
     ·refine RL.gT rfl (bT h44) ?_
      refine V (fA underlying43 3 rfl sizeOf39 rfl) ?_
      refine RL.gT rfl (bT h44) ?_
      refine V (run_ldV (hn.names_.sl.hp hH2) underlying39 rfl rfl (hH2.cell (i := 0) rfl rfl)) ?_
      refine RL.gT rfl (bT h44) ?_
      refine V (run_lenSl (hn.names_.sl.hp hH2) rfl underlying39 rfl) ?_
      refine RL.gT rfl (bT h44) ?_
      refine V (run_eql rfl rfl) ?_
      refine V (run_pickT (bT h44) (v := B _) rfl) ?_
      refine V (mV (B _) rfl) ?_
      refine RL.splitP (dj := 54) rfl (fun h46 => ?_) (fun h46 => ?_)
      ·refine RL.gT rfl (bT h46) ?_
       refine V (fA underlying43 4 rfl sizeOf41 rfl) ?_
       refine RL.gT rfl (bT h46) ?_
       refine V (run_ldV (hn.kids_.sl.hp hH2) underlying41 rfl rfl (hH2.cell (i := 0) rfl rfl)) ?_
       refine RL.gT rfl (bT h46) ?_
       refine V (run_lenSl (hn.kids_.sl.hp hH2) rfl underlying41 rfl) ?_
       refine RL.gT rfl (bT h46) ?_
       refine V (run_gtr rfl rfl) ?_
       refine V (run_pickT (bT h46) (v := B _) rfl) ?_
       refine V (mV (B _) rfl) ?_
       refine RL.splitP (dj := 60) rfl (fun h48 => ?_) (fun h48 => ?_)
       ·refine RL.gT rfl (bT h48) ?_
        refine V (fA underlying43 4 rfl sizeOf41 rfl) ?_
        refine RL.gT rfl (bT h48) ?_
        refine V (run_ldV (hn.kids_.sl.hp hH2) underlying41 rfl rfl (hH2.cell (i := 0) rfl rfl)) ?_
        refine RL.gT rfl (bT h48) ?_
        refine RL.callT rfl (hA 3 _ _ (hn.kids_.sl.hp hH2) ⟨(NodeV.mono hH2.kw hn).each⟩) (run_call2 call72 (show _ = I 3 from rfl) rfl) ?_
        rintro _ w51 ⟨⟨b54, rfl⟩, hb52⟩
        have hH53 := hH2.call hb52
        refine V (run_pickT (bT h48) (v := B _) rfl) ?_
        refine V (aV (B _) rfl) ?_
        refine RL.nil ?_
        refine CW.ret ?_
        exact out1 Tryd.results43 rfl ⟨⟨_, rfl⟩, hH53.below⟩
       ·refine RL.gF rfl rfl (bF h48) rfl ?_
        refine RL.gF rfl rfl (bF h48) rfl ?_
        refine RL.gF rfl rfl (bF h48) rfl ?_
        refine V (run_pickF (bF h48) (v := B false) rfl) ?_
        refine V (aV (B _) rfl) ?_
        refine RL.nil ?_
        refine CW.ret ?_
        exact out1 Tryd.results43 rfl ⟨⟨_, rfl⟩, hH2.below⟩
      ·refine RL.gF rfl rfl (bF h46) rfl ?_
       refine RL.gF rfl rfl (bF h46) rfl ?_
       refine RL.gF rfl rfl (bF h46) rfl ?_
       refine RL.gF rfl rfl (bF h46) rfl ?_
       refine V (run_pickF (bF h46) (v := B false) rfl) ?_
       refine V (mV (B _) rfl) ?_
       refine RL.gF rfl rfl rfl rfl ?_
       refine RL.gF rfl rfl rfl rfl ?_
       refine RL.gF rfl rfl rfl rfl ?_
       refine V (run_pickF rfl (v := B false) rfl) ?_
       refine V (aV (B _) rfl) ?_
       refine RL.nil ?_
       refine CW.ret ?_
       exact out1 Tryd.results43 rfl ⟨⟨_, rfl⟩, hH2.below⟩
     ·refine RL.gF rfl rfl (bF h44) rfl ?_
      refine RL.gF rfl rfl (bF h44) rfl ?_
      refine RL.gF rfl rfl (bF h44) rfl ?_
      refine RL.gF rfl rfl (bF h44) rfl ?_
      refine V (run_pickF (bF h44) (v := B false) rfl) ?_
      refine V (mV (B _) rfl) ?_
      refine RL.gF rfl rfl rfl rfl ?_
      refine RL.gF rfl rfl rfl rfl ?_
      refine RL.gF rfl rfl rfl rfl ?_
      refine RL.gF rfl rfl rfl rfl ?_
      refine V (run_pickF rfl (v := B false) rfl) ?_
      refine V (mV (B _) rfl) ?_
      refine RL.gF rfl rfl rfl rfl ?_
      refine RL.gF rfl rfl rfl rfl ?_
      refine RL.gF rfl rfl rfl rfl ?_
      refine V (run_pickF rfl (v := B false) rfl) ?_
      refine V (aV (B _) rfl) ?_
      refine RL.nil ?_
      refine CW.ret ?_
      exact out1 Tryd.results43 rfl ⟨⟨_, rfl⟩, hH2.below⟩
    ·refine CW.skip ?_
     refine SR ?_
     refine V (aV (B false) rfl) ?_
     refine RL.nil ?_
     refine CW.ret ?_
     exact out1 Tryd.results43 rfl ⟨⟨_, rfl⟩, hH2.below⟩

theorem s_IsRow (n : NodeR) (w : World) (hn : NodeV (Kw w) n) (hA : ∀ (what : Int) (v : Value) (w : World), Sl w v 5 n.kids.length (n.kids.flatMap nodeL) → NodesV (Kw w) n.kids → Calls Tryd.prog 72 #[I what, v] w (Ret fun u w' => (∃ b : Bool, u = B b) ∧ Below w.heap.size w w')) (hL : ∀ w, NodeV (Kw w) n → Calls Tryd.prog 43 #[.agg (nodeL n).toArray] w (Ret fun u w' => (∃ b : Bool, u = B b) ∧ Below w.heap.size w w')) : Calls Tryd.prog 44 #[.agg (nodeL n).toArray] w (Ret fun u w' => (∃ b : Bool, u = B b) ∧ Below w.heap.size w w') := by
 have hm1 := hn.kids_.small
 have hm2 := hn.names_.small
 unfold maxLen at hm1 hm2
 refine enter Tryd.func44 rfl Tryd.ntmps44 rfl ?_
 have hH := Hp.start w
 refine SR ?_
 refine RL.new rfl hH (f := fun b => (.pointer (some ⟨b, 0, none⟩))) (run_box (v := .agg _) rfl) ?_
 intro b3 w1 hH2
 refine V (aV (B false) rfl) ?_
 refine RL.nil ?_
 refine CW.seq ?_
 refine SR ?_
 refine V (fA underlying43 0 rfl sizeOf3 rfl) ?_
 refine V (run_ld underlying3 rfl rfl (hH2.cell (i := 0) rfl (v := I _) rfl)) ?_
 refine V (run_eql rfl rfl) ?_
 refine RL.nil ?_
 refine CW.condP rfl (fun h5 => ?_) (fun h5 => ?_)
 ·refine SR ?_
  refine V (fA underlying43 2 rfl sizeOf9 rfl) ?_
  refine V (run_ld underlying9 rfl rfl (hH2.cell (i := 0) rfl (v := .string _) rfl)) ?_
  refine V (run_eqlS rfl rfl) ?_
  refine V (mV (B _) rfl) ?_
  refine RL.splitP (dj := 9) rfl (fun h7 => ?_) (fun h7 => ?_)
  ·refine RL.gT rfl (bT h7) ?_
   refine V (fA underlying43 3 rfl sizeOf39 rfl) ?_
   refine RL.gT rfl (bT h7) ?_
   refine V (run_ldV (hn.names_.sl.hp hH2) underlying39 rfl rfl (hH2.cell (i := 0) rfl rfl)) ?_
   refine RL.gT rfl (bT h7) ?_
   refine V (run_lenSl (hn.names_.sl.hp hH2) rfl underlying39 rfl) ?_
   refine RL.gT rfl (bT h7) ?_
   refine V (run_leq rfl rfl) ?_
   refine V (run_pickT (bT h7) (v := B _) rfl) ?_
   refine V (mV (B _) rfl) ?_
   refine RL.splitP (dj := 15) rfl (fun h9 => ?_) (fun h9 => ?_)
   ·refine RL.gT rfl (bT h9) ?_
    refine V (fA underlying43 3 rfl sizeOf39 rfl) ?_
    refine RL.gT rfl (bT h9) ?_
    refine V (run_ldV (hn.names_.sl.hp hH2) underlying39 rfl rfl (hH2.cell (i := 0) rfl rfl)) ?_
    refine RL.gT rfl (bT h9) ?_
    refine RL.callP rfl hH2 (c_clearanceref10_right _ _  _ (hn.names_.sl.hp hH2)) (run_call1 call73 rfl) ?_
    intro w10 hH11
    refine V (run_pickT (bT h9) (v := B _) rfl) ?_
    refine V (mV (B _) rfl) ?_
    refine RL.split (dj := 20) rfl (fun h13 => ?_) (fun h13 => ?_)
    ·refine RL.gT rfl (bR (c := true) h13) ?_
     refine V (fA underlying43 4 rfl sizeOf41 rfl) ?_
     refine RL.gT rfl (bR (c := true) h13) ?_
     refine V (run_ldV (hn.kids_.sl.hp hH11) underlying41 rfl rfl (hH11.cell (i := 0) rfl rfl)) ?_
     refine RL.gT rfl (bR (c := true) h13) ?_
     refine RL.callT rfl (hA 4 _ _ (hn.kids_.sl.hp hH11) ⟨(NodeV.mono hH11.kw hn).each⟩) (run_call2 call72 (show _ = I 4 from rfl) rfl) ?_
     rintro _ w16 ⟨⟨b19, rfl⟩, hb17⟩
     have hH18 := hH11.call hb17
     refine V (run_pickT (bR (c := true) h13) (v := B _) rfl) ?_
     refine V (aV (B _) rfl) ?_
     refine RL.nil ?_
     refine CW.ret ?_
     exact out1 Tryd.results44 rfl ⟨⟨_, rfl⟩, hH18.below⟩
    ·refine RL.gF rfl rfl (bR (c := false) h13) rfl ?_
     refine RL.gF rfl rfl (bR (c := false) h13) rfl ?_
     refine RL.gF rfl rfl (bR (c := false) h13) rfl ?_
     refine V (run_pickF (bR (c := false) h13) (v := B false) rfl) ?_
     refine V (aV (B _) rfl) ?_
     refine RL.nil ?_
     refine CW.ret ?_
     exact out1 Tryd.results44 rfl ⟨⟨_, rfl⟩, hH11.below⟩
   ·refine RL.gF rfl rfl (bF h9) rfl ?_
    refine RL.gF rfl rfl (bF h9) rfl ?_
    refine RL.gF rfl rfl (bF h9) rfl ?_
    refine V (run_pickF (bF h9) (v := B false) rfl) ?_
    refine V (mV (B _) rfl) ?_
    refine RL.gF rfl rfl rfl rfl ?_
    refine RL.gF rfl rfl rfl rfl ?_
    refine RL.gF rfl rfl rfl rfl ?_
    refine V (run_pickF rfl (v := B false) rfl) ?_
    refine V (aV (B _) rfl) ?_
    refine RL.nil ?_
    refine CW.ret ?_
    exact out1 Tryd.results44 rfl ⟨⟨_, rfl⟩, hH2.below⟩
  ·refine RL.gF rfl rfl (bF h7) rfl ?_
   refine RL.gF rfl rfl (bF h7) rfl ?_
   refine RL.gF rfl rfl (bF h7) rfl ?_
   refine RL.gF rfl rfl (bF h7) rfl ?_
   refine V (run_pickF (bF h7) (v := B false) rfl) ?_
   refine V (mV (B _) rfl) ?_
   refine RL.gF rfl rfl rfl rfl ?_
   refine RL.gF rfl rfl rfl rfl ?_
   refine RL.gF rfl rfl rfl rfl ?_
   refine V (run_pickF rfl (v := B false) rfl) ?_
   refine V (mV (B _) rfl) ?_
   refine RL.gF rfl rfl rfl rfl ?_
   refine RL.gF rfl rfl rfl rfl ?_
   refine RL.gF rfl rfl rfl rfl ?_
   refine V (run_pickF rfl (v := B false) rfl) ?_
   refine V (aV (B _) rfl) ?_
   refine RL.nil ?_
   refine CW.ret ?_
   exact out1 Tryd.results44 rfl ⟨⟨_, rfl⟩, hH2.below⟩
 ·refine CW.skip ?_
  refine SR ?_
  refine V (fA underlying43 0 rfl sizeOf3 rfl) ?_
  refine V (run_ld underlying3 rfl rfl (hH2.cell (i := 0) rfl (v := I _) rfl)) ?_
  refine V (run_eql rfl rfl) ?_
  refine V (mV (B _) rfl) ?_
  refine RL.splitP (dj := 28) rfl (fun h22 => ?_) (fun h22 => ?_)
  ·refine RL.gT rfl (bT h22) ?_
   refine V (run_ldA (cs := nodeL _) underlying43 rfl rfl rfl (rangeAt_cells (hH2.blk (i := 0) rfl))) ?_
   refine RL.gT rfl (bT h22) ?_
   refine RL.callT rfl (hL _ (NodeV.mono hH2.kw hn)) (run_call1 call43 rfl) ?_
   rintro _ w25 ⟨⟨b28, rfl⟩, hb26⟩
   have hH27 := hH2.call hb26
   refine V (run_pickT (bT h22) (v := B _) rfl) ?_
   refine V (aV (B _) rfl) ?_
   refine RL.nil ?_
   refine CW.ret ?_
   exact out1 Tryd.results44 rfl ⟨⟨_, rfl⟩, hH27.below⟩
  ·refine RL.gF rfl rfl (bF h22) rfl ?_
   refine RL.gF rfl rfl (bF h22) rfl ?_
   refine V (run_pickF (bF h22) (v := B false) rfl) ?_
   refine V (aV (B _) rfl) ?_
   refine RL.nil ?_
   refine CW.ret ?_
   exact out1 Tryd.results44 rfl ⟨⟨_, rfl⟩, hH2.below⟩
theorem c_nodes (n : NodeR) : ((∀ w, NodeV (Kw w) n → Calls Tryd.prog 95 #[.agg (nodeL n).toArray] w (Ret fun u w' => (∃ b : Bool, u = B b) ∧ Below w.heap.size w w')) ∧ (∀ w, NodeV (Kw w) n → Calls Tryd.prog 43 #[.agg (nodeL n).toArray] w (Ret fun u w' => (∃ b : Bool, u = B b) ∧ Below w.heap.size w w'))) ∧ ∀ y ∈ n.kids, (∀ w, NodeV (Kw w) y → Calls Tryd.prog 95 #[.agg (nodeL y).toArray] w (Ret fun u w' => (∃ b : Bool, u = B b) ∧ Below w.heap.size w w')) ∧ (∀ w, NodeV (Kw w) y → Calls Tryd.prog 43 #[.agg (nodeL y).toArray] w (Ret fun u w' => (∃ b : Bool, u = B b) ∧ Below w.heap.size w w')) :=
 node_ind (C := fun n => ((∀ w, NodeV (Kw w) n → Calls Tryd.prog 95 #[.agg (nodeL n).toArray] w (Ret fun u w' => (∃ b : Bool, u = B b) ∧ Below w.heap.size w w')) ∧ (∀ w, NodeV (Kw w) n → Calls Tryd.prog 43 #[.agg (nodeL n).toArray] w (Ret fun u w' => (∃ b : Bool, u = B b) ∧ Below w.heap.size w w'))) ∧ ∀ y ∈ n.kids, (∀ w, NodeV (Kw w) y → Calls Tryd.prog 95 #[.agg (nodeL y).toArray] w (Ret fun u w' => (∃ b : Bool, u = B b) ∧ Below w.heap.size w w')) ∧ (∀ w, NodeV (Kw w) y → Calls Tryd.prog 43 #[.agg (nodeL y).toArray] w (Ret fun u w' => (∃ b : Bool, u = B b) ∧ Below w.heap.size w w'))) (fun n ih => by
  have hA : ∀ (what : Int) (v : Value) (w : World), Sl w v 5 n.kids.length (n.kids.flatMap nodeL) → NodesV (Kw w) n.kids → Calls Tryd.prog 72 #[I what, v] w (Ret fun u w' => (∃ b : Bool, u = B b) ∧ Below w.heap.size w w') := fun what v w hs hv =>
   s_all what v n.kids w hs hv (fun x hx => (ih x hx).1.1) (fun x hx => (ih x hx).1.2) (fun x hx y hy => ((ih x hx).2 y hy).2)
  exact ⟨⟨fun w hn => s_IsConst n w hn hA, fun w hn => s_IsLabel n w hn hA⟩, fun y hy => (ih y hy).1⟩) n
theorem c_clearanceref10_IsLabel (n : NodeR) (w : World) (hn : NodeV (Kw w) n) : Calls Tryd.prog 43 #[.agg (nodeL n).toArray] w (Ret fun u w' => (∃ b : Bool, u = B b) ∧ Below w.heap.size w w') := (c_nodes n).1.2 w hn
theorem c_clearanceref10_IsConst (n : NodeR) (w : World) (hn : NodeV (Kw w) n) : Calls Tryd.prog 95 #[.agg (nodeL n).toArray] w (Ret fun u w' => (∃ b : Bool, u = B b) ∧ Below w.heap.size w w') := (c_nodes n).1.1 w hn
theorem c_clearanceref10_IsRow (n : NodeR) (w : World) (hn : NodeV (Kw w) n) : Calls Tryd.prog 44 #[.agg (nodeL n).toArray] w (Ret fun u w' => (∃ b : Bool, u = B b) ∧ Below w.heap.size w w') :=
 s_IsRow n w hn (fun what v w hs hv => s_all what v n.kids w hs hv (fun x hx => ((c_nodes n).2 x hx).1) (fun x hx => ((c_nodes n).2 x hx).2) (fun x hx y hy => ((c_nodes x).2 y hy).2)) (c_nodes n).1.2

theorem s_same (a b : NodeR) (w : World) (ha : NodeV (Kw w) a) (hb : NodeV (Kw w) b) (ih : ∀ x ∈ a.kids, ∀ y ∈ b.kids, ∀ w, NodeV (Kw w) x → NodeV (Kw w) y → Calls Tryd.prog 74 #[.agg (nodeL x).toArray, .agg (nodeL y).toArray] w (Ret fun u w' => (∃ b : Bool, u = B b) ∧ Below w.heap.size w w')) : Calls Tryd.prog 74 #[.agg (nodeL a).toArray, .agg (nodeL b).toArray] w (Ret fun u w' => (∃ b : Bool, u = B b) ∧ Below w.heap.size w w') := by
 have hm1 := ha.kids_.small
 have hm2 := ha.names_.small
 unfold maxLen at hm1 hm2
 refine enter Tryd.func74 rfl Tryd.ntmps74 rfl ?_
 have hH := Hp.start w
 refine SR ?_
 refine RL.new rfl hH (f := fun b => (.pointer (some ⟨b, 0, none⟩))) (run_box (v := .agg _) rfl) ?_
 intro b3 w1 hH2
 refine RL.new rfl hH2 (f := fun b => (.pointer (some ⟨b, 0, none⟩))) (run_box (v := .agg _) rfl) ?_
 intro b6 w4 hH5
 refine V (aV (B false) rfl) ?_
 refine RL.nil ?_
 refine CW.seq ?_
 refine SR ?_
 refine V (fA underlying43 0 rfl sizeOf3 rfl) ?_
 refine V (run_ld underlying3 rfl rfl (hH5.cell (i := 1) rfl (v := I _) rfl)) ?_
 refine V (fA underlying43 0 rfl sizeOf3 rfl) ?_
 refine V (run_ld underlying3 rfl rfl (hH5.cell (i := 0) rfl (v := I _) rfl)) ?_
 refine V (run_neq rfl rfl) ?_
 refine V (mV (B _) rfl) ?_
 refine RL.splitP (dj := 12) rfl (fun h8 => ?_) (fun h8 => ?_)
 ·refine RL.gF rfl rfl (bT h8) rfl ?_
  refine RL.gF rfl rfl (bT h8) rfl ?_
  refine RL.gF rfl rfl (bT h8) rfl ?_
  refine RL.gF rfl rfl (bT h8) rfl ?_
  refine RL.gF rfl rfl (bT h8) rfl ?_
  refine V (run_pickT (bT h8) (v := B true) rfl) ?_
  refine V (mV (B _) rfl) ?_
  refine RL.gF rfl rfl rfl rfl ?_
  refine RL.gF rfl rfl rfl rfl ?_
  refine RL.gF rfl rfl rfl rfl ?_
  refine RL.gF rfl rfl rfl rfl ?_
  refine RL.gF rfl rfl rfl rfl ?_
  refine RL.gF rfl rfl rfl rfl ?_
  refine RL.gF rfl rfl rfl rfl ?_
  refine V (run_pickT rfl (v := B true) rfl) ?_
  refine V (mV (B _) rfl) ?_
  refine RL.gF rfl rfl rfl rfl ?_
  refine RL.gF rfl rfl rfl rfl ?_
  refine RL.gF rfl rfl rfl rfl ?_
  refine RL.gF rfl rfl rfl rfl ?_
  refine RL.gF rfl rfl rfl rfl ?_
  refine RL.gF rfl rfl rfl rfl ?_
  refine RL.gF rfl rfl rfl rfl ?_
  refine V (run_pickT rfl (v := B true) rfl) ?_
  refine RL.nil ?_
  refine CW.condT rfl ?_
  refine SR ?_
  refine V (aV (B false) rfl) ?_
  refine RL.nil ?_
  refine CW.ret ?_
  exact out1 Tryd.results74 rfl ⟨⟨_, rfl⟩, hH5.below⟩
 ·refine RL.gT rfl (bF h8) ?_
  refine V (fA underlying43 2 rfl sizeOf9 rfl) ?_
  refine RL.gT rfl (bF h8) ?_
  refine V (run_ld underlying9 rfl rfl (hH5.cell (i := 1) rfl (v := .string _) rfl)) ?_
  refine RL.gT rfl (bF h8) ?_
  refine V (fA underlying43 2 rfl sizeOf9 rfl) ?_
  refine RL.gT rfl (bF h8) ?_
  refine V (run_ld underlying9 rfl rfl (hH5.cell (i := 0) rfl (v := .string _) rfl)) ?_
  refine RL.gT rfl (bF h8) ?_
  refine V (run_neqS rfl rfl) ?_
  refine V (run_pickF (bF h8) (v := B _) rfl) ?_
  refine V (mV (B _) rfl) ?_
  refine RL.splitP (dj := 19) rfl (fun h10 => ?_) (fun h10 => ?_)
  ·refine RL.gF rfl rfl (bT h10) rfl ?_
   refine RL.gF rfl rfl (bT h10) rfl ?_
   refine RL.gF rfl rfl (bT h10) rfl ?_
   refine RL.gF rfl rfl (bT h10) rfl ?_
   refine RL.gF rfl rfl (bT h10) rfl ?_
   refine RL.gF rfl rfl (bT h10) rfl ?_
   refine RL.gF rfl rfl (bT h10) rfl ?_
   refine V (run_pickT (bT h10) (v := B true) rfl) ?_
   refine V (mV (B _) rfl) ?_
   refine RL.gF rfl rfl rfl rfl ?_
   refine RL.gF rfl rfl rfl rfl ?_
   refine RL.gF rfl rfl rfl rfl ?_
   refine RL.gF rfl rfl rfl rfl ?_
   refine RL.gF rfl rfl rfl rfl ?_
   refine RL.gF rfl rfl rfl rfl ?_
   refine RL.gF rfl rfl rfl rfl ?_
   refine V (run_pickT rfl (v := B true) rfl) ?_
   refine RL.nil ?_
   refine CW.condT rfl ?_
   refine SR ?_
   refine V (aV (B false) rfl) ?_
   refine RL.nil ?_
   refine CW.ret ?_
   exact out1 Tryd.results74 rfl ⟨⟨_, rfl⟩, hH5.below⟩
  ·refine RL.gT rfl (bF h10) ?_
   refine V (fA underlying43 3 rfl sizeOf39 rfl) ?_
   refine RL.gT rfl (bF h10) ?_
   refine V (run_ldV (ha.names_.sl.hp hH5) underlying39 rfl rfl (hH5.cell (i := 1) rfl rfl)) ?_
   refine RL.gT rfl (bF h10) ?_
   refine V (run_lenSl (ha.names_.sl.hp hH5) rfl underlying39 rfl) ?_
   refine RL.gT rfl (bF h10) ?_
   refine V (fA underlying43 3 rfl sizeOf39 rfl) ?_
   refine RL.gT rfl (bF h10) ?_
   refine V (run_ldV (hb.names_.sl.hp hH5) underlying39 rfl rfl (hH5.cell (i := 0) rfl rfl)) ?_
   refine RL.gT rfl (bF h10) ?_
   refine V (run_lenSl (hb.names_.sl.hp hH5) rfl underlying39 rfl) ?_
   refine RL.gT rfl (bF h10) ?_
   refine V (run_neq rfl rfl) ?_
   refine V (run_pickF (bF h10) (v := B _) rfl) ?_
   refine V (mV (B _) rfl) ?_
   refine RL.splitP (dj := 28) rfl (fun h12 => ?_) (fun h12 => ?_)
   ·refine RL.gF rfl rfl (bT h12) rfl ?_
    refine RL.gF rfl rfl (bT h12) rfl ?_
    refine RL.gF rfl rfl (bT h12) rfl ?_
    refine RL.gF rfl rfl (bT h12) rfl ?_
    refine RL.gF rfl rfl (bT h12) rfl ?_
    refine RL.gF rfl rfl (bT h12) rfl ?_
    refine RL.gF rfl rfl (bT h12) rfl ?_
    refine V (run_pickT (bT h12) (v := B true) rfl) ?_
    refine RL.nil ?_
    refine CW.condT rfl ?_
    refine SR ?_
    refine V (aV (B false) rfl) ?_
    refine RL.nil ?_
    refine CW.ret ?_
    exact out1 Tryd.results74 rfl ⟨⟨_, rfl⟩, hH5.below⟩
   ·refine RL.gT rfl (bF h12) ?_
    refine V (fA underlying43 4 rfl sizeOf41 rfl) ?_
    refine RL.gT rfl (bF h12) ?_
    refine V (run_ldV (ha.kids_.sl.hp hH5) underlying41 rfl rfl (hH5.cell (i := 1) rfl rfl)) ?_
    refine RL.gT rfl (bF h12) ?_
    refine V (run_lenSl (ha.kids_.sl.hp hH5) rfl underlying41 rfl) ?_
    refine RL.gT rfl (bF h12) ?_
    refine V (fA underlying43 4 rfl sizeOf41 rfl) ?_
    refine RL.gT rfl (bF h12) ?_
    refine V (run_ldV (hb.kids_.sl.hp hH5) underlying41 rfl rfl (hH5.cell (i := 0) rfl rfl)) ?_
    refine RL.gT rfl (bF h12) ?_
    refine V (run_lenSl (hb.kids_.sl.hp hH5) rfl underlying41 rfl) ?_
    refine RL.gT rfl (bF h12) ?_
    refine V (run_neq rfl rfl) ?_
    refine V (run_pickF (bF h12) (v := B _) rfl) ?_
    refine RL.nil ?_
    refine CW.condP rfl (fun h14 => ?_) (fun h14 => ?_)
    ·refine SR ?_
     refine V (aV (B false) rfl) ?_
     refine RL.nil ?_
     refine CW.ret ?_
     exact out1 Tryd.results74 rfl ⟨⟨_, rfl⟩, hH5.below⟩
    ·refine CW.skip ?_
     refine CW.seq ?_
     refine SR ?_
     refine V (aV (I 0) rfl) ?_
     refine RL.nil ?_
     refine CW.block ?_
     have hnl : a.names.length = b.names.length := by omega
     have hkl : a.kids.length = b.kids.length := by omega
     refine CW.loop (G := (Int)) (fun (k : Int) s' w' => (Fr [4, 5, 37, 38, 39, 40, 41, 42, 43, 44, 45, 46, 47, 48, 49, 50, 51, 52, 53, 54, 55, 56] _ s') ∧ (Hp w w' _) ∧ (s' 5 = I k) ∧ (0 ≤ k) ∧ (k ≤ a.names.length)) (fun (k : Int) => (a.names.length - k).toNat) (0) ⟨Fr.refl _ _, hH5, rfl, (by omega), (by omega)⟩ ?_
     rintro k sg15 w15 ⟨fr15, hH15, e5_15, h0, hk⟩
     have e2_15 : sg15 2 = Pn _ _ := (fr15 2 rfl).trans rfl
     have e3_15 : sg15 3 = Pn _ _ := (fr15 3 rfl).trans rfl
     refine CW.seq ?_
     refine SR ?_
     refine V (run_move e5_15) ?_
     refine V (fA underlying43 3 rfl sizeOf39 e2_15) ?_
     refine V (run_ldV (ha.names_.sl.hp hH15) underlying39 rfl rfl (hH15.cell (i := 1) rfl rfl)) ?_
     refine V (run_lenSl (ha.names_.sl.hp hH15) rfl underlying39 rfl) ?_
     refine V (run_lss rfl rfl) ?_
     refine RL.nil ?_
     refine CW.condP rfl (fun h17 => ?_) (fun h17 => ?_)
     ·refine CW.skip ?_
      refine CW.seq ?_
      refine CW.block ?_
      refine CW.seq ?_
      refine CW.regionD (by kernel_rfl) hH15 ?_
      intro w18 hH19
      refine AT 0 rfl (hH19.sub sR) (fun w hS => fA underlying43 3 rfl sizeOf39 e2_15) ?_
      refine AT 1 rfl (hH19.sub sR) (fun w hS => run_ldV (ha.names_.sl.hp hS) underlying39 rfl rfl (hS.cell (i := 1) rfl rfl)) ?_
      refine AT 2 rfl (hH19.sub sR) (fun w hS => run_move e5_15) ?_
      refine AT 3 rfl (hH19.sub sR) (fun w hS => run_indexAddrS (ha.names_.sl.hp hS) underlying39 sizeOf38 rfl rfl (by omega)) ?_
      refine AT 4 rfl (hH19.sub sR) (fun w hS => fA underlying38 0 rfl sizeOf9 rfl) ?_
      refine AT 5 rfl (hH19.sub sR) (fun w hS => run_ldE1 (dv := wd0) (off := 0) wdL_len (ha.names_.sl.hp hS) underlying9 rfl rfl (by omega) rfl) ?_
      refine AT 6 rfl (hH19.sub sR) (fun w hS => fA underlying43 3 rfl sizeOf39 e3_15) ?_
      refine AT 7 rfl (hH19.sub sR) (fun w hS => run_ldV (hb.names_.sl.hp hS) underlying39 rfl rfl (hS.cell (i := 0) rfl rfl)) ?_
      refine AT 8 rfl (hH19.sub sR) (fun w hS => run_move e5_15) ?_
      refine AT 9 rfl (hH19.sub sR) (fun w hS => run_indexAddrS (hb.names_.sl.hp hS) underlying39 sizeOf38 rfl rfl (by omega)) ?_
      refine AT 10 rfl (hH19.sub sR) (fun w hS => fA underlying38 0 rfl sizeOf9 rfl) ?_
      refine AT 11 rfl (hH19.sub sR) (fun w hS => run_ldE1 (dv := wd0) (off := 0) wdL_len (hb.names_.sl.hp hS) underlying9 rfl rfl (by omega) rfl) ?_
      refine AT 12 rfl (hH19.sub sR) (fun w hS => run_neqS rfl rfl) ?_
      refine AD ?_
      refine CW.condP rfl (fun h21 => ?_) (fun h21 => ?_)
      ·refine SR ?_
       refine V (aV (B false) rfl) ?_
       refine RL.nil ?_
       refine CW.ret ?_
       exact out1 Tryd.results74 rfl ⟨⟨_, rfl⟩, hH19.below⟩
      ·refine CW.skip ?_
       refine CW.region ?_
       refine V (run_move e5_15) ?_
       refine V (run_add rfl rfl (by omega)) ?_
       refine V (aV (I _) rfl) ?_
       refine RL.nil ?_
       refine ⟨k + 1, ?_, fr15.u4.u4.u4.u4.u4.u1, hH19, (congrArg I (by first | rfl | omega)), ?_, ?_⟩
       ·((try dsimp only); omega)
       ·omega
       ·omega
     ·refine CW.exit (id := 0) rfl ?_
      refine CW.seq ?_
      refine SR ?_
      refine V (aV (I 0) rfl) ?_
      refine RL.nil ?_
      refine CW.block ?_
      refine CW.loop (G := (Int)) (fun (j : Int) s' w' => (Fr [4, 6, 57, 58, 59, 60, 61, 62, 63, 64, 65, 66, 67, 68, 69, 70, 71, 72, 73, 74, 75] _ s') ∧ (Hp w w' _) ∧ (s' 6 = I j) ∧ (0 ≤ j) ∧ (j ≤ a.kids.length)) (fun (j : Int) => (a.kids.length - j).toNat) (0) ⟨Fr.refl _ _, hH15, rfl, (by omega), (by omega)⟩ ?_
      rintro j sg22 w22 ⟨fr22, hH22, e6_22, j0, hj⟩
      have e2_22 := (fr22 2 rfl).trans e2_15
      have e3_22 := (fr22 3 rfl).trans e3_15
      refine CW.seq ?_
      refine SR ?_
      refine V (run_move e6_22) ?_
      refine V (fA underlying43 4 rfl sizeOf41 e2_22) ?_
      refine V (run_ldV (ha.kids_.sl.hp hH22) underlying41 rfl rfl (hH22.cell (i := 1) rfl rfl)) ?_
      refine V (run_lenSl (ha.kids_.sl.hp hH22) rfl underlying41 rfl) ?_
      refine V (run_lss rfl rfl) ?_
      refine RL.nil ?_
      refine CW.condP rfl (fun h24 => ?_) (fun h24 => ?_)
      ·refine CW.skip ?_
       refine CW.seq ?_
       refine CW.block ?_
       refine CW.seq ?_
       refine CW.regionD (by kernel_rfl) hH22 ?_
       intro w25 hH26
       refine AT 0 rfl (hH26.sub sR) (fun w hS => fA underlying43 4 rfl sizeOf41 e2_22) ?_
       refine AT 1 rfl (hH26.sub sR) (fun w hS => run_ldV (ha.kids_.sl.hp hS) underlying41 rfl rfl (hS.cell (i := 1) rfl rfl)) ?_
       refine AT 2 rfl (hH26.sub sR) (fun w hS => run_move e6_22) ?_
       refine AT 3 rfl (hH26.sub sR) (fun w hS => run_indexAddrS (ha.kids_.sl.hp hS) underlying41 sizeOf43 rfl rfl (by omega)) ?_
       refine AT 4 rfl (hH26.sub sR) (fun w hS => run_ldE (dv := node0) nodeL_len (ha.kids_.sl.hp hS) underlying43 rfl rfl rfl (by omega)) ?_
       refine AT 5 rfl (hH26.sub sR) (fun w hS => fA underlying43 4 rfl sizeOf41 e3_22) ?_
       refine AT 6 rfl (hH26.sub sR) (fun w hS => run_ldV (hb.kids_.sl.hp hS) underlying41 rfl rfl (hS.cell (i := 0) rfl rfl)) ?_
       refine AT 7 rfl (hH26.sub sR) (fun w hS => run_move e6_22) ?_
       refine AT 8 rfl (hH26.sub sR) (fun w hS => run_indexAddrS (hb.kids_.sl.hp hS) underlying41 sizeOf43 rfl rfl (by omega)) ?_
       refine AT 9 rfl (hH26.sub sR) (fun w hS => run_ldE (dv := node0) nodeL_len (hb.kids_.sl.hp hS) underlying43 rfl rfl rfl (by omega)) ?_
       refine A1 10 ?_
       refine AO.callT rfl gnone rfl (ih _ (List.mem_of_getElem? (getD_at (d := node0) j0 ‹j < _›)) _ (List.mem_of_getElem? (getD_at (d := node0) j0 (by omega))) _ (NodeV.mono hH26.kw (ha.at j0 (by omega))) (NodeV.mono hH26.kw (hb.at j0 (by omega)))) (run_call2 call74 rfl rfl) (fun u w' hq => (hH26.call hq.2).sub sR) ?_
       rintro _ w29 ⟨⟨b32, rfl⟩, hb30⟩
       have hH31 := hH26.call hb30
       refine AT 11 rfl (hH31.sub sR) (fun w hS => run_not rfl) ?_
       refine AD ?_
       refine CW.cond rfl (fun h35 => ?_) (fun h35 => ?_)
       ·refine SR ?_
        refine V (aV (B false) rfl) ?_
        refine RL.nil ?_
        refine CW.ret ?_
        exact out1 Tryd.results74 rfl ⟨⟨_, rfl⟩, hH31.below⟩
       ·refine CW.skip ?_
        refine CW.region ?_
        refine V (run_move e6_22) ?_
        refine V (run_add rfl rfl (by omega)) ?_
        refine V (aV (I _) rfl) ?_
        refine RL.nil ?_
        refine ⟨j + 1, ?_, fr22.u4.u4.u4.u4.u4, hH31, (congrArg I (by first | rfl | omega)), ?_, ?_⟩
        ·((try dsimp only); omega)
        ·omega
        ·omega
      ·refine CW.exit (id := 2) rfl ?_
       refine SR ?_
       refine V (aV (B true) rfl) ?_
       refine RL.nil ?_
       refine CW.ret ?_
       exact out1 Tryd.results74 rfl ⟨⟨_, rfl⟩, hH22.below⟩
theorem c_clearanceref10_Same (a b : NodeR) : ∀ w, NodeV (Kw w) a → NodeV (Kw w) b → Calls Tryd.prog 74 #[.agg (nodeL a).toArray, .agg (nodeL b).toArray] w (Ret fun u w' => (∃ b : Bool, u = B b) ∧ Below w.heap.size w w') := node2_ind (C := fun a b => ∀ w, NodeV (Kw w) a → NodeV (Kw w) b → Calls Tryd.prog 74 #[.agg (nodeL a).toArray, .agg (nodeL b).toArray] w (Ret fun u w' => (∃ b : Bool, u = B b) ∧ Below w.heap.size w w')) (fun a b ih w ha hb => s_same a b w ha hb ih) a b

theorem c_clearanceref12_zero (n : NodeR) (w : World) (hn : NodeV (Kw w) n) : Calls Tryd.prog 45 #[.agg (nodeL n).toArray] w (Ret fun u w' => (∃ b : Bool, u = B b) ∧ Below w.heap.size w w') := by
 refine enter Tryd.func45 rfl Tryd.ntmps45 rfl ?_
 have hH := Hp.start w
 refine SR ?_
 refine RL.new rfl hH (f := fun b => (.pointer (some ⟨b, 0, none⟩))) (run_box (v := .agg _) rfl) ?_
 intro b3 w1 hH2
 refine V (aV (B false) rfl) ?_
 refine RL.nil ?_
 refine SR ?_
 refine V (run_ldA (cs := nodeL _) underlying43 rfl rfl rfl (rangeAt_cells (hH2.blk (i := 0) rfl))) ?_
 refine V (run_bld (vs := []) rfl built_node0) ?_
 refine RL.callT rfl (c_clearanceref10_Same _ node0 _ (NodeV.mono hH2.kw hn) (node0_v _)) (run_call2 call74 rfl rfl) ?_
 rintro _ w6 ⟨⟨b9, rfl⟩, hb7⟩
 have hH8 := hH2.call hb7
 refine V (aV (B _) rfl) ?_
 refine RL.nil ?_
 refine CW.ret ?_
 exact out1 Tryd.results45 rfl ⟨⟨_, rfl⟩, hH8.below⟩

end Go.Proofs.YtiaifdnlkdcbiaaDoor.W
