/-
  The walks of the functions that the laws of this seat reach, part 2: each returns what its plain counterpart tells, and turns nothing that was there.
-/
import Derived.Test.YtieckcbckgalhaaDoorProg
import Derived.Test.YtieckcbckgalhaaDoorEnv
import Derived.Test.YtieckcbckgalhaaDoorPlain
import Derived.Test.YtieckcbckgalhaaDoorBase
import Derived.Test.YtieckcbckgalhaaDoorOrd
import Derived.Test.YtieckcbckgalhaaDoorRel
import Derived.Test.YtieckcbckgalhaaDoorClo
import Derived.Test.YtieckcbckgalhaaDoorCov
import Derived.Test.YtieckcbckgalhaaDoorArr
import Derived.Test.YtieckcbckgalhaaDoorHas
import Derived.Test.YtieckcbckgalhaaDoorGrd
import Derived.Test.YtieckcbckgalhaaDoorStr
import Derived.Test.YtieckcbckgalhaaDoorVu
import Derived.Test.YtieckcbckgalhaaDoorShp
import Derived.Test.YtieckcbckgalhaaDoorShl
import Derived.Test.YtieckcbckgalhaaDoorShq
import Derived.Test.YtieckcbckgalhaaDoorShr
import Derived.Test.YtieckcbckgalhaaDoorCut
import Derived.Test.YtieckcbckgalhaaDoorRec
import Derived.Test.YtieckcbckgalhaaDoorOut
import Derived.Test.YtieckcbckgalhaaDoorScp
import Derived.Test.YtieckcbckgalhaaDoorScq
import Derived.Test.YtieckcbckgalhaaDoorByt
import Derived.Test.YtieckcbckgalhaaDoorNod
import Derived.Test.YtieckcbckgalhaaDoorSpl
import Derived.Test.YtieckcbckgalhaaDoorSpb
import Derived.Test.YtieckcbckgalhaaDoorSpt
import Derived.Test.YtieckcbckgalhaaDoorSpn
import Derived.Test.YtieckcbckgalhaaDoorSpx
import Derived.Test.YtieckcbckgalhaaDoorSpy
import Derived.Test.YtieckcbckgalhaaDoorMk
import Derived.Test.YtieckcbckgalhaaDoorAsn
import Derived.Test.YtieckcbckgalhaaDoorAsp
import Derived.Test.YtieckcbckgalhaaDoorAsr
import Derived.Test.YtieckcbckgalhaaDoorAst
import Derived.Test.YtieckcbckgalhaaDoorAsw
import Derived.Test.YtieckcbckgalhaaDoorMin
import Derived.Test.YtieckcbckgalhaaDoorAssignFieldsPacesA
namespace Go.Proofs.YtieckcbckgalhaaDoor.W
open Go Go.RowKit Go.Proofs.YtieckcbckgalhaaDoor.E Go.Proofs.YtieckcbckgalhaaDoor.M
set_option linter.unusedVariables false
set_option linter.unusedSimpArgs false
set_option maxRecDepth 100000
open Tryd
theorem c_assign_at_api_Lat (s : Scp) (i : Int) (w : World) (hs : ScpV (Kw w) s) : Calls Tryd.prog 29 #[s.lv, I i] w (Pure (.agg (latL (latAt s.lats i)).toArray) w) := by
 have hm1 := hs.lats.sl.small
 have hm2 := hs.vars.sl.small
 unfold maxLen at hm1 hm2
 refine enter Tryd.func29 rfl Tryd.ntmps29 rfl <| have hH := Hp.start w; SR <| RL.new rfl hH (f := fun b => (.pointer (some ⟨b, 0, none⟩))) (run_alloc zero_lat) <| fun b3 w1 hH2 => RL.nil <| SR <| RL.new rfl hH2 (f := fun b => (.pointer (some ⟨b, 0, none⟩))) (run_alloc zero_lat) <| fun b6 w4 hH5 => RL.nil <| CW.seq <| SR <| mI rfl <| V (run_lss rfl rfl) <| mB rfl <| RL.splitP (dj := 8) rfl (fun h8 => ?_) (fun h8 => ?_)
 ·refine gF rfl (bT h8) <| gF rfl (bT h8) <| gF rfl (bT h8) <| gF rfl (bT h8) <| V (run_pickT (bT h8) (v := B true) rfl) <| RL.nil <| CW.condT rfl <| SR <| V (run_ldA (cs := latL _) underlying49 rfl rfl rfl (rangeAt_cells (hH5.blk (i := 0) rfl))) <| RL.set hH5 (i := 1) rfl (run_stW (c' := (latL _).toArray) rfl rfl rfl (latL_one (lat0_v (Kw w))) (hH5.blk (i := 1) rfl) rfl) <| fun w9 hH10 => ?_
  simp only [z2] at hH10
  refine RL.nil <| CW.ret <| outCg Tryd.results29 rfl hH10 (i := 1) rfl underlying49 rfl rfl ⟨?_, hH10.below⟩
  (unfold latAt; rw [if_neg (by omega)])
 ·refine gT rfl (bF h8) <| mI rfl <| gT rfl (bF h8) <| ?_
  refine V (run_move (by conv => lhs; whnf)) ?_
  refine gT rfl (bF h8) <| V (run_lenSl (hs.lats.sl.hp hH5) rfl underlying50 rfl) <| gT rfl (bF h8) <| V (run_geq rfl rfl) <| V (run_pickF (bF h8) (v := B _) rfl) <| RL.nil <| CW.condP rfl (fun h12 => ?_) (fun h12 => ?_)
  ·refine SR <| V (run_ldA (cs := latL _) underlying49 rfl rfl rfl (rangeAt_cells (hH5.blk (i := 0) rfl))) <| RL.set hH5 (i := 1) rfl (run_stW (c' := (latL _).toArray) rfl rfl rfl (latL_one (lat0_v (Kw w))) (hH5.blk (i := 1) rfl) rfl) <| fun w13 hH14 => ?_
   simp only [z2] at hH14
   refine RL.nil <| CW.ret <| outCg Tryd.results29 rfl hH14 (i := 1) rfl underlying49 rfl rfl ⟨?_, hH14.below⟩
   (unfold latAt; rw [if_neg (by omega)])
  ·refine CW.skip <| SR <| ?_
   refine V (run_move (by conv => lhs; whnf)) ?_
   refine mI rfl <| V (run_indexAddrS (hs.lats.sl.hp hH5) underlying50 sizeOf49 rfl rfl (by omega)) <| V (run_ldE (dv := lat0) latL_len (hs.lats.sl.hp hH5) underlying49 rfl rfl rfl (by omega)) <| RL.set hH5 (i := 1) rfl (run_stW (c' := (latL _).toArray) rfl rfl rfl (latL_one (hs.at (by omega) (by omega))) (hH5.blk (i := 1) rfl) rfl) <| fun w15 hH16 => ?_
   simp only [z2] at hH16
   refine RL.nil <| CW.ret <| outCg Tryd.results29 rfl hH16 (i := 1) rfl underlying49 rfl rfl ⟨?_, hH16.below⟩
   (unfold latAt; rw [if_pos (by omega)])
theorem c_assign_below (v u : Value) (l m : List ValR) (w : World) (hs : Sl w v 9 l.length (l.flatMap valL)) (ht : Sl w u 9 m.length (m.flatMap valL)) : Calls Tryd.prog 26 #[v, u] w (Pure (B (belowL l m)) w) := by
 have hm := hs.small
 unfold maxLen at hm
 have hm2 := ht.small
 unfold maxLen at hm2
 refine enter Tryd.func26 rfl Tryd.ntmps26 rfl <| have hH := Hp.start w; SR <| va (v := B false) rfl <| RL.nil <| CW.seq <| SR <| ?_
 refine V (run_move (by conv => lhs; whnf)) ?_
 refine V (run_lenSl (hs.hp hH) rfl underlying22 rfl) <| vm (v := I 0) rfl <| RL.nil <| CW.block <| CW.loop (G := Int) (fun k s' w' => (Fr (4 :: (rg 6 3 (rg 11 21 []))) _ s') ∧ (Hp w w' _) ∧ (s' 11 = I k) ∧ (0 ≤ k) ∧ (k ≤ l.length) ∧ (∀ j : Int, 0 ≤ j → j < k → ((getF m (l.getD j.toNat val0).name).2 && leqE (l.getD j.toNat val0).el (getF m (l.getD j.toNat val0).name).1) = true)) (fun k => (l.length - k).toNat) (0) ⟨Fr.refl _ _, hH, rfl, (by omega), (by omega), fun j a b => absurd b (by omega)⟩ <| ?_
 rintro k sg1 w1 ⟨fr1, hH1, e11_1, h0, hk, hg⟩
 have e1_1 := (fr1 1 rfl).trans (by conv => lhs; whnf)
 have e9_1 := (fr1 9 rfl).trans (by conv => lhs; whnf)
 have e10_1 := fr1.ii 10 rfl rfl
 refine SR <| V (run_lss e11_1 e10_1) <| RL.nil <| CW.seq <| CW.condP rfl (fun h3 => ?_) (fun h3 => ?_)
 ·refine CW.skip <| CW.seq <| CW.block <| SR <| V (run_indexAddrS (hs.hp hH1) underlying22 sizeOf27 e9_1 e11_1 (by omega)) <| V (run_ldE (dv := val0) valL_len (hs.hp hH1) underlying27 rfl rfl rfl (by omega)) <| RL.new rfl hH1 (f := fun b => (.pointer (some ⟨b, 0, none⟩))) (run_alloc zero_val) <| fun b6 w4 hH5 => RL.set hH5 (i := 0) rfl (run_stW (c' := (valL _).toArray) rfl rfl rfl (valL_one _) (hH5.blk (i := 0) rfl) rfl) <| fun w7 hH8 => ?_
  simp only [z2] at hH8
  refine RL.nil <| SR <| vm e1_1 <| V (fA underlying27 0 rfl sizeOf9 rfl) <| V (run_ld underlying9 rfl rfl (hH8.cell (i := 0) rfl (v := .string _) rfl)) <| RL.callP rfl hH8 (c_assign_Get _ _ _  _ (ht.hp hH8)) (run_call2 call6 rfl rfl) <| fun w9 hH10 => ?_
  refine V (run_move (by conv => lhs; whnf)) ?_
  refine V (run_extract rfl (v := .agg _) rfl) <| V (run_extract rfl (v := B _) rfl) <| RL.new rfl hH10 (f := fun b => (.pointer (some ⟨b, 0, none⟩))) (run_alloc zero_el) <| fun b14 w12 hH13 => RL.set hH13 (i := 0) rfl (run_stEl rfl rfl rfl (hH13.blk (i := 0) rfl)) <| fun w15 hH16 => ?_
  simp only [z2] at hH16
  refine aB rfl <| RL.nil <| SR <| mB rfl <| V (run_not rfl) <| mB rfl <| RL.split (dj := 24) rfl (fun h18 => ?_) (fun h18 => ?_)
  ·refine gF rfl (bR (c := true) h18) <| gF rfl (bR (c := true) h18) <| gF rfl (bR (c := true) h18) <| gF rfl (bR (c := true) h18) <| gF rfl (bR (c := true) h18) <| V (run_pickT (bR (c := true) h18) (v := B true) rfl) <| RL.nil <| CW.condT rfl <| SR <| va (v := B false) rfl <| RL.nil <| CW.ret <| outP1 Tryd.results26 (congrArg B ?_) hH16.below
   exact (below_no1 h0 ‹k < _› (nt ‹(!(getF _ _).2) = true›)).symm
  ·refine gT rfl (bR (c := false) h18) <| V (fA underlying27 1 rfl sizeOf25 rfl) <| gT rfl (bR (c := false) h18) <| V (run_ldVB underlying25 rfl rfl rfl (hH16.blk (i := 1) rfl)) <| gT rfl (bR (c := false) h18) <| V (run_ldEl underlying25 rfl rfl rfl (hH16.blk (i := 0) rfl)) <| gT rfl (bR (c := false) h18) <| RL.callP rfl hH16 (c_shape_Leq _ _  _) (run_call2 call24 rfl rfl) <| fun w19 hH20 => gT rfl (bR (c := false) h18) <| V (run_not rfl) <| V (run_pickF (bR (c := false) h18) (v := B _) rfl) <| RL.nil <| CW.cond rfl (fun h23 => ?_) (fun h23 => ?_)
   ·refine SR <| va (v := B false) rfl <| RL.nil <| CW.ret <| outP1 Tryd.results26 (congrArg B ?_) hH20.below
    exact (below_no2 h0 ‹k < _› (nt ‹(!leqE _ _) = true›)).symm
   ·refine CW.skip <| CW.region <| V (run_add e11_1 rfl (by omega)) <| mI rfl <| RL.nil <| ?_
    refine ⟨k + 1, ?_, fr1.u4.u4.u4.u4.u4.u4, (hH20.sub (sQ (sQ sR))), (congrArg I (by rfl)), ?_, ?_, ?_⟩
    ·((try dsimp only); omega)
    ·omega
    ·omega
    ·exact fun j a b => if e : j = k then e ▸ (by rw [nf ‹(!(getF _ _).2) = false›, nf ‹(!leqE _ _) = false›]; rfl) else hg j a (by omega)
 ·refine CW.exit (id := 0) rfl <| SR <| va (v := B true) rfl <| RL.nil <| CW.ret <| outP1 Tryd.results26 (congrArg B ?_) hH1.below
  exact (below_yes ‹¬ k < _› hg).symm
theorem c_clearanceref18_Fields (v u : Value) (l m : List ValR) (w : World) (hs : Sl w v 9 l.length (l.flatMap valL)) (ht : Sl w u 9 m.length (m.flatMap valL)) : Calls Tryd.prog 9 #[v, u] w (Pure (B (sameL l m)) w) := by
 have hm := hs.small
 unfold maxLen at hm
 have hm2 := ht.small
 unfold maxLen at hm2
 refine enter Tryd.func9 rfl Tryd.ntmps9 rfl <| have hH := Hp.start w; SR <| va (v := B false) rfl <| RL.nil <| CW.seq <| SR <| ?_
 refine V (run_move (by conv => lhs; whnf)) ?_
 refine V (run_lenSl (hs.hp hH) rfl underlying22 rfl) ?_
 refine V (run_move (by conv => lhs; whnf)) ?_
 refine V (run_lenSl (ht.hp hH) rfl underlying22 rfl) <| V (run_neq rfl rfl) <| RL.nil <| CW.condP rfl (fun h2 => ?_) (fun h2 => ?_)
 ·refine SR <| va (v := B false) rfl <| RL.nil <| CW.ret <| outP1 Tryd.results9 (congrArg B ?_) hH.below
  exact (sameL_no1 ‹_›).symm
 ·refine CW.skip <| CW.seq <| SR <| va (v := I 0) rfl <| RL.nil <| CW.block <| have hlm : (l.length : Int) = m.length := (by omega); CW.loop (G := Int) (fun k s' w' => (Fr (4 :: 5 :: (rg 11 15 [])) _ s') ∧ (Hp w w' _) ∧ (s' 5 = I k) ∧ (0 ≤ k) ∧ (k ≤ l.length) ∧ (∀ j : Int, 0 ≤ j → j < k → sameV (l.getD j.toNat val0) (m.getD j.toNat val0) = true)) (fun k => (l.length - k).toNat) (0) ⟨Fr.refl _ _, hH, rfl, (by omega), (by omega), fun j a b => absurd b (by omega)⟩ <| ?_
  rintro k sg3 w3 ⟨fr3, hH3, e5_3, h0, hk, hg⟩
  have e0_3 := (fr3 0 rfl).trans (by conv => lhs; whnf)
  have e1_3 := (fr3 1 rfl).trans (by conv => lhs; whnf)
  refine CW.seq <| SR <| vm e5_3 <| vm e0_3 <| V (run_lenSl (hs.hp hH3) rfl underlying22 rfl) <| V (run_lss rfl rfl) <| RL.nil <| CW.condP rfl (fun h5 => ?_) (fun h5 => ?_)
  ·refine CW.skip <| CW.seq <| CW.block <| CW.seq <| CW.regionD (by kernel_rfl) hH3 <| fun w6 hH7 => have zh7 := hH7.sub sR; AQ 0 rfl zh7 (run_move e0_3) <| AQ 1 rfl zh7 (run_move e5_3) <| AT 2 rfl zh7 (fun w hS => run_indexAddrS (hs.hp hS) underlying22 sizeOf27 rfl rfl (by omega)) <| AT 3 rfl zh7 (fun w hS => run_ldE (dv := val0) valL_len (hs.hp hS) underlying27 rfl rfl rfl (by omega)) <| AQ 4 rfl zh7 (run_move e1_3) <| AQ 5 rfl zh7 (run_move e5_3) <| AT 6 rfl zh7 (fun w hS => run_indexAddrS (ht.hp hS) underlying22 sizeOf27 rfl rfl (by omega)) <| AT 7 rfl zh7 (fun w hS => run_ldE (dv := val0) valL_len (ht.hp hS) underlying27 rfl rfl rfl (by omega)) <| AQ 8 rfl zh7 (run_neqT (eq_val _ _) rfl rfl) <| AD <| CW.cond rfl (fun h9 => ?_) (fun h9 => ?_)
   ·refine SR <| va (v := B false) rfl <| RL.nil <| CW.ret <| outP1 Tryd.results9 (congrArg B ?_) hH7.below
    exact (sameL_no2 h0 ‹k < _› (nt ‹(!sameV _ _) = true›)).symm
   ·refine CW.skip <| CW.region <| vm e5_3 <| V (run_add rfl rfl (by omega)) <| aI rfl <| RL.nil <| ?_
    refine ⟨k + 1, ?_, fr3.u4.u4.u4.u4, hH7, (congrArg I (by rfl)), ?_, ?_, ?_⟩
    ·((try dsimp only); omega)
    ·omega
    ·omega
    ·exact fun j a b => if e : j = k then e ▸ nf ‹(!sameV _ _) = false› else hg j a (by omega)
  ·refine CW.exit (id := 0) rfl <| SR <| va (v := B true) rfl <| RL.nil <| CW.ret <| outP1 Tryd.results9 (congrArg B ?_) hH3.below
   exact (sameL_yes hlm ‹¬ k < _› hg).symm
theorem c_assign_Leq (a b : Asg) (w : World) (ha : AsgV (Kw w) a) (hb : AsgV (Kw w) b) : Calls Tryd.prog 13 #[.agg (asgL a).toArray, .agg (asgL b).toArray] w (Pure (B (leqA a.as b.as)) w) := by
 have hm1 := ha.labels.small
 have hm2 := ha.rows.small
 have hm3 := hb.labels.small
 have hm4 := hb.rows.small
 unfold maxLen at hm1 hm2 hm3 hm4
 refine enter Tryd.func13 rfl Tryd.ntmps13 rfl <| have hH := Hp.start w; SR <| RL.new rfl hH (f := fun b => (.pointer (some ⟨b, 0, none⟩))) (run_box (v := .agg _) rfl) <| fun b3 w1 hH2 => RL.new rfl hH2 (f := fun b => (.pointer (some ⟨b, 0, none⟩))) (run_box (v := .agg _) rfl) <| fun b6 w4 hH5 => va (v := B false) rfl <| RL.nil <| CW.seq <| SR <| V (fA underlying32 0 rfl sizeOf30 rfl) <| V (run_ldV (ha.labels.sl.hp hH5) underlying30 rfl rfl (hH5.cell (i := 1) rfl rfl)) <| V (run_lenSl (ha.labels.sl.hp hH5) rfl underlying30 rfl) <| vm (v := I 0) rfl <| RL.nil <| CW.block <| CW.loop (G := Int) (fun k s' w' => (Fr (4 :: 5 :: (rg 10 15 [])) _ s') ∧ (Hp w w' _) ∧ (s' 10 = I k) ∧ (0 ≤ k) ∧ (k ≤ a.labels.length) ∧ (∀ i : Int, 0 ≤ i → i < k → leqE (a.labels.getD i.toNat el0) (b.labels.getD i.toNat el0) = true)) (fun k => (a.labels.length - k).toNat) (0) ⟨Fr.refl _ _, hH5, rfl, (by omega), (by omega), fun j a b => absurd b (by omega)⟩ <| ?_
 rintro k sg7 w7 ⟨fr7, hH7, e10_7, h0, hk, hg⟩
 have e2_7 := fr7.pp 2 rfl rfl
 have e3_7 := fr7.pp 3 rfl rfl
 have e9_7 := fr7.ii 9 rfl rfl
 refine SR <| V (run_lss e10_7 e9_7) <| RL.nil <| CW.seq <| CW.condP rfl (fun h9 => ?_) (fun h9 => ?_)
 ·refine CW.skip <| CW.seq <| CW.block <| SR <| vm e10_7 <| aI rfl <| RL.nil <| CW.seq <| CW.regionD (by kernel_rfl) hH7 <| fun w10 hH11 => have zh11 := hH11.sub sR; AQ 0 rfl zh11 (fA underlying32 0 rfl sizeOf30 e2_7) <| AT 1 rfl zh11 (fun w hS => run_ldV (ha.labels.sl.hp hS) underlying30 rfl rfl (hS.cell (i := 1) rfl rfl)) <| AQ 2 rfl zh11 (mV (I _) rfl) <| AT 3 rfl zh11 (fun w hS => run_indexAddrS (ha.labels.sl.hp hS) underlying30 sizeOf25 rfl rfl (by omega)) <| AT 4 rfl zh11 (fun w hS => run_ldElS (ha.labels.sl.hp hS) underlying25 rfl rfl rfl (by omega)) <| AQ 5 rfl zh11 (fA underlying32 0 rfl sizeOf30 e3_7) <| AT 6 rfl zh11 (fun w hS => run_ldV (hb.labels.sl.hp hS) underlying30 rfl rfl (hS.cell (i := 0) rfl rfl)) <| AQ 7 rfl zh11 (mV (I _) rfl) <| A1 8 <| AO.callP rfl gnone rfl hH11 sR (c_assign_at_api_Elem _ _ _ (by omega) _ (hb.labels.sl.hp hH11)) (run_call2 call25 rfl rfl) <| fun w12 hH13 => A1 9 <| AO.callP rfl gnone rfl hH13 sR (c_shape_Leq _ _  _) (run_call2 call24 rfl rfl) <| fun w14 hH15 => AQ 10 rfl (hH15.sub sR) (run_not rfl) <| AD <| CW.cond rfl (fun h18 => ?_) (fun h18 => ?_)
  ·refine SR <| va (v := B false) rfl <| RL.nil <| CW.ret <| outP1 Tryd.results13 (congrArg B ?_) hH15.below
   exact (leqA_1 h0 ‹k < _› (nt ‹(!leqE _ _) = true›)).symm
  ·refine CW.skip <| CW.region <| V (run_add e10_7 rfl (by omega)) <| mI rfl <| RL.nil <| ?_
   refine ⟨k + 1, ?_, fr7.u4.u4.u4.u4, hH15, (congrArg I (by rfl)), ?_, ?_, ?_⟩
   ·((try dsimp only); omega)
   ·omega
   ·omega
   ·exact fun i u v => if e : i = k then e ▸ (nf ‹(!leqE _ _) = false›) else hg i u (by omega)
 ·refine CW.exit (id := 0) rfl <| CW.seq <| SR <| V (fA underlying32 1 rfl sizeOf29 e2_7) <| V (run_ldV (ha.rows.sl.hp hH7) underlying29 rfl rfl (hH7.cell (i := 1) rfl rfl)) <| V (run_lenSl (ha.rows.sl.hp hH7) rfl underlying29 rfl) <| vm (v := I 0) rfl <| RL.nil <| CW.block <| CW.loop (G := Int) (fun j s' w' => (Fr (4 :: (6 :: (rg 28 15 []))) _ s') ∧ (Hp w w' _) ∧ (s' 28 = I j) ∧ (0 ≤ j) ∧ (j ≤ a.rows.length) ∧ (∀ i : Int, 0 ≤ i → i < j → belowL (a.rows.getD i.toNat vr0).l (b.rows.getD i.toNat vr0).l = true)) (fun j => (a.rows.length - j).toNat) (0) ⟨Fr.refl _ _, hH7, rfl, (by omega), (by omega), fun j a b => absurd b (by omega)⟩ <| ?_
  rintro j sg19 w19 ⟨fr19, hH19, e28_19, j0, jk, hr⟩
  have e2_19 := (fr19 2 rfl).trans e2_7
  have e3_19 := (fr19 3 rfl).trans e3_7
  have e27_19 := fr19.ii 27 rfl rfl
  refine SR <| V (run_lss e28_19 e27_19) <| RL.nil <| CW.seq <| CW.condP rfl (fun h21 => ?_) (fun h21 => ?_)
  ·refine CW.skip <| CW.seq <| CW.block <| SR <| vm e28_19 <| aI rfl <| RL.nil <| CW.seq <| CW.regionD (by kernel_rfl) hH19 <| fun w22 hH23 => have zh23 := hH23.sub sR; AQ 0 rfl zh23 (fA underlying32 1 rfl sizeOf29 e2_19) <| AT 1 rfl zh23 (fun w hS => run_ldV (ha.rows.sl.hp hS) underlying29 rfl rfl (hS.cell (i := 1) rfl rfl)) <| AQ 2 rfl zh23 (mV (I _) rfl) <| AT 3 rfl zh23 (fun w hS => run_indexAddrS (ha.rows.sl.hp hS) underlying29 sizeOf22 rfl rfl (by omega)) <| AT 4 rfl zh23 (fun w hS => run_ld underlying22 rfl rfl ((ha.rows.sl.hp hS).cell _ _ (rowsC_at (by omega)))) <| AQ 5 rfl zh23 (fA underlying32 1 rfl sizeOf29 e3_19) <| AT 6 rfl zh23 (fun w hS => run_ldV (hb.rows.sl.hp hS) underlying29 rfl rfl (hS.cell (i := 0) rfl rfl)) <| AQ 7 rfl zh23 (mV (I _) rfl) <| A1 8 <| AO.callP rfl gnone rfl hH23 sR (c_assign_at_api_Value _ _ _ (by omega) _ (hb.rows.sl.hp hH23)) (run_call2 call27 rfl rfl) <| fun w24 hH25 => A1 9 <| AO.callP rfl gnone rfl hH25 sR (c_assign_below _ _ _ _  _ ((ha.at (by omega) (by omega)).sl.hp hH25) ((hb.each.or j.toNat).sl.hp hH25)) (run_call2 call26 rfl rfl) <| fun w26 hH27 => AQ 10 rfl (hH27.sub sR) (run_not rfl) <| AD <| CW.cond rfl (fun h30 => ?_) (fun h30 => ?_)
   ·refine SR <| va (v := B false) rfl <| RL.nil <| CW.ret <| outP1 Tryd.results13 (congrArg B ?_) hH27.below
    exact (leqA_2 j0 ‹j < _› (nt ‹(!belowL _ _) = true›)).symm
   ·refine CW.skip <| CW.region <| V (run_add e28_19 rfl (by omega)) <| mI rfl <| RL.nil <| ?_
    refine ⟨j + 1, ?_, fr19.u4.u4.u4.u4, hH27, (congrArg I (by rfl)), ?_, ?_, ?_⟩
    ·((try dsimp only); omega)
    ·omega
    ·omega
    ·exact fun i u v => if e : i = j then e ▸ (nf ‹(!belowL _ _) = false›) else hr i u (by omega)
  ·refine CW.exit (id := 2) rfl <| SR <| va (v := B true) rfl <| RL.nil <| CW.ret <| outP1 Tryd.results13 (congrArg B ?_) hH19.below
   exact (leqA_y ‹¬ k < _› hg ‹¬ j < _› hr).symm
set_option maxHeartbeats 2000000 in
theorem c_assign_Right (s : Scp) (a : Asg) (w : World) (hs : ScpV (Kw w) s) (ha : AsgV (Kw w) a) (hT : Tab w) : Calls Tryd.prog 12 #[.agg (scpC s), .agg (asgL a).toArray] w (Pure (B (rightA s.sc a.as)) w) := by
 have hm1 := hs.lats.sl.small
 have hm2 := hs.vars.sl.small
 unfold maxLen at hm1 hm2
 have hm3 := ha.labels.small
 have hm4 := ha.rows.small
 unfold maxLen at hm3 hm4
 refine enter Tryd.func12 rfl Tryd.ntmps12 rfl <| have hH := Hp.start w; SR <| RL.new rfl hH (f := fun b => (.pointer (some ⟨b, 0, none⟩))) (run_box (v := .agg _) rfl) <| fun b3 w1 hH2 => RL.new rfl hH2 (f := fun b => (.pointer (some ⟨b, 0, none⟩))) (run_box (v := .agg _) rfl) <| fun b6 w4 hH5 => va (v := B false) rfl <| RL.nil <| CW.seq <| SR <| V (fA underlying32 0 rfl sizeOf30 rfl) <| V (run_ldV (ha.labels.sl.hp hH5) underlying30 rfl rfl (hH5.cell (i := 0) rfl rfl)) <| V (run_lenSl (ha.labels.sl.hp hH5) rfl underlying30 rfl) <| V (fA underlying55 1 rfl sizeOf53 rfl) <| V (run_ldV (hs.vars.sl.hp hH5) underlying53 rfl rfl (hH5.cell (i := 1) rfl rfl)) <| V (run_lenSl (hs.vars.sl.hp hH5) rfl underlying53 rfl) <| V (run_neq rfl rfl) <| mB rfl <| RL.splitP (dj := 15) rfl (fun h8 => ?_) (fun h8 => ?_)
 ·refine gF rfl (bT h8) <| gF rfl (bT h8) <| gF rfl (bT h8) <| gF rfl (bT h8) <| gF rfl (bT h8) <| gF rfl (bT h8) <| gF rfl (bT h8) <| V (run_pickT (bT h8) (v := B true) rfl) <| RL.nil <| CW.condT rfl <| SR <| va (v := B false) rfl <| RL.nil <| CW.ret <| outP1 Tryd.results12 (congrArg B ?_) hH5.below
  exact (right_1 (by omega)).symm
 ·refine gT rfl (bF h8) <| V (fA underlying32 1 rfl sizeOf29 rfl) <| gT rfl (bF h8) <| V (run_ldV (ha.rows.sl.hp hH5) underlying29 rfl rfl (hH5.cell (i := 0) rfl rfl)) <| gT rfl (bF h8) <| V (run_lenSl (ha.rows.sl.hp hH5) rfl underlying29 rfl) <| gT rfl (bF h8) <| V (fA underlying55 1 rfl sizeOf53 rfl) <| gT rfl (bF h8) <| V (run_ldV (hs.vars.sl.hp hH5) underlying53 rfl rfl (hH5.cell (i := 1) rfl rfl)) <| gT rfl (bF h8) <| V (run_lenSl (hs.vars.sl.hp hH5) rfl underlying53 rfl) <| gT rfl (bF h8) <| V (run_neq rfl rfl) <| V (run_pickF (bF h8) (v := B _) rfl) <| RL.nil <| CW.condP rfl (fun h10 => ?_) (fun h10 => ?_)
  ·refine SR <| va (v := B false) rfl <| RL.nil <| CW.ret <| outP1 Tryd.results12 (congrArg B ?_) hH5.below
   exact (right_2 (by omega)).symm
  ·refine CW.skip <| CW.seq <| SR <| V (fA underlying55 1 rfl sizeOf53 rfl) <| V (run_ldV (hs.vars.sl.hp hH5) underlying53 rfl rfl (hH5.cell (i := 1) rfl rfl)) <| V (run_lenSl (hs.vars.sl.hp hH5) rfl underlying53 rfl) <| vm (v := I 0) rfl <| RL.nil <| CW.block <| have e1 : (a.labels.length : Int) = s.vars.length := (by omega); have e2 : (a.rows.length : Int) = s.vars.length := (by omega); CW.loop (G := Int) (fun k s' w' => (Fr (rg 4 4 (rg 27 73 [])) _ s') ∧ (Hp w w' _) ∧ (s' 27 = I k) ∧ (0 ≤ k) ∧ (k ≤ s.vars.length) ∧ (∀ i : Int, 0 ≤ i → i < k → okG s a i = true)) (fun k => (s.vars.length - k).toNat) (0) ⟨Fr.refl _ _, hH5, rfl, (by omega), (by omega), fun j a b => absurd b (by omega)⟩ <| ?_
   rintro k sg11 w11 ⟨fr11, hH11, e27_11, h0, hk, hg⟩
   have e2_11 := fr11.pp 2 rfl rfl
   have e3_11 := fr11.pp 3 rfl rfl
   have e25_11 := (fr11 25 rfl).trans (by conv => lhs; whnf)
   have e26_11 := fr11.ii 26 rfl rfl
   refine SR <| V (run_lss e27_11 e26_11) <| RL.nil <| CW.seq <| CW.condP rfl (fun h13 => ?_) (fun h13 => ?_)
   ·refine CW.skip <| CW.seq <| CW.block <| SR <| vm e27_11 <| V (run_indexAddrS (hs.vars.sl.hp hH11) underlying53 sizeOf52 e25_11 e27_11 (by omega)) <| V (run_ldE (dv := var0) varL_len (hs.vars.sl.hp hH11) underlying52 rfl rfl rfl (by omega)) <| RL.new rfl hH11 (f := fun b => (.pointer (some ⟨b, 0, none⟩))) (run_alloc Tryd.zeroValue52) <| fun b16 w14 hH15 => aI rfl <| RL.set hH15 (i := 0) rfl (run_stW (c' := (varL _).toArray) rfl rfl rfl (by simp [varL, Value.oneCell']) (hH15.blk (i := 0) rfl) rfl) <| fun w17 hH18 => ?_
    simp only [z2] at hH18
    refine RL.nil <| CW.seq <| SR <| V (fA underlying52 2 rfl sizeOf3 rfl) <| V (run_ld underlying3 rfl rfl (hH18.cell (i := 0) rfl (v := I _) rfl)) <| V (run_lss rfl rfl) <| mB rfl <| RL.splitP (dj := 35) rfl (fun h20 => ?_) (fun h20 => ?_)
    ·refine gF rfl (bT h20) <| gF rfl (bT h20) <| gF rfl (bT h20) <| gF rfl (bT h20) <| gF rfl (bT h20) <| gF rfl (bT h20) <| V (run_pickT (bT h20) (v := B true) rfl) <| RL.nil <| CW.condT rfl <| SR <| va (v := B false) rfl <| RL.nil <| CW.ret <| outP1 Tryd.results12 (congrArg B ?_) hH18.below
     exact (right_3 h0 ‹k < _› (ok_n0 (by omega))).symm
    ·refine gT rfl (bF h20) <| V (fA underlying52 2 rfl sizeOf3 rfl) <| gT rfl (bF h20) <| V (run_ld underlying3 rfl rfl (hH18.cell (i := 0) rfl (v := I _) rfl)) <| gT rfl (bF h20) <| V (fA underlying55 0 rfl sizeOf50 e2_11) <| gT rfl (bF h20) <| V (run_ldV (hs.lats.sl.hp hH18) underlying50 rfl rfl (hH18.cell (i := 2) rfl rfl)) <| gT rfl (bF h20) <| V (run_lenSl (hs.lats.sl.hp hH18) rfl underlying50 rfl) <| gT rfl (bF h20) <| V (run_geq rfl rfl) <| V (run_pickF (bF h20) (v := B _) rfl) <| RL.nil <| CW.condP rfl (fun h22 => ?_) (fun h22 => ?_)
     ·refine SR <| va (v := B false) rfl <| RL.nil <| CW.ret <| outP1 Tryd.results12 (congrArg B ?_) hH18.below
      exact (right_3 h0 ‹k < _› (ok_n0 (by omega))).symm
     ·refine CW.skip <| SR <| V (fA underlying55 0 rfl sizeOf50 e2_11) <| V (run_ldV (hs.lats.sl.hp hH18) underlying50 rfl rfl (hH18.cell (i := 2) rfl rfl)) <| V (fA underlying52 2 rfl sizeOf3 rfl) <| V (run_ld underlying3 rfl rfl (hH18.cell (i := 0) rfl (v := I _) rfl)) <| V (run_indexAddrS (hs.lats.sl.hp hH18) underlying50 sizeOf49 rfl rfl (by omega)) <| V (fA underlying49 1 rfl sizeOf47 rfl) <| V (run_ldEA (dv := lat0) (off := 1) (cs := shpL _) latL_len (hs.lats.sl.hp hH18) underlying47 rfl rfl rfl (by omega) (lat_shp _)) <| RL.new rfl hH18 (f := fun b => (.pointer (some ⟨b, 0, none⟩))) (run_alloc Tryd.zeroValue47) <| fun b25 w23 hH24 => RL.set hH24 (i := 0) rfl (run_stShp (hs.at (by omega) (by omega)) rfl rfl rfl (hH24.blk (i := 0) rfl) rfl) <| fun w26 hH27 => ?_
      simp only [z2] at hH27
      refine RL.nil <| SR <| V (fA underlying52 1 rfl sizeOf3 rfl) <| V (run_ld underlying3 rfl rfl (hH27.cell (i := 1) rfl (v := I _) rfl)) <| RL.nil <| CW.block <| SR <| V (run_eql rfl rfl) <| aB rfl <| RL.nil <| CW.condP rfl (fun h29 => ?_) (fun h29 => ?_)
      ·refine CW.seq <| CW.regionD (by kernel_rfl) hH27 <| fun w30 hH31 => have zh31 := hH31.sub sR; AQ 0 rfl zh31 (fA underlying32 1 rfl sizeOf29 e3_11) <| AT 1 rfl zh31 (fun w hS => run_ldV (ha.rows.sl.hp hS) underlying29 rfl rfl (hS.cell (i := 2) rfl rfl)) <| AQ 2 rfl zh31 (mV (I _) rfl) <| AT 3 rfl zh31 (fun w hS => run_indexAddrS (ha.rows.sl.hp hS) underlying29 sizeOf22 rfl rfl (by omega)) <| AT 4 rfl zh31 (fun w hS => run_ld underlying22 rfl rfl ((ha.rows.sl.hp hS).cell _ _ (rowsC_at (by omega)))) <| AT 5 rfl zh31 (fun w hS => run_lenSl ((ha.at (by omega) (by omega)).sl.hp hS) rfl underlying22 rfl) <| AQ 6 rfl zh31 (run_gtr rfl rfl) <| AQ 7 rfl zh31 (mV (B _) rfl) <| AN.splitP (dj := 61) rfl (fun h33 => ?_) (fun h33 => ?_)
       ·refine AK 8 rfl rfl (bT h33) (hH31.sub sR) <| AK 9 rfl rfl (bT h33) (hH31.sub sR) <| AK 10 rfl rfl (bT h33) (hH31.sub sR) <| AK 11 rfl rfl (bT h33) (hH31.sub sR) <| AK 12 rfl rfl (bT h33) (hH31.sub sR) <| AK 13 rfl rfl (bT h33) (hH31.sub sR) <| AK 14 rfl rfl (bT h33) (hH31.sub sR) <| AK 15 rfl rfl (bT h33) (hH31.sub sR) <| AQ 16 rfl zh31 (run_pickT (bT h33) (v := B true) rfl) <| AD <| CW.condT rfl <| SR <| va (v := B false) rfl <| RL.nil <| CW.ret <| outP1 Tryd.results12 (congrArg B ?_) hH31.below
        exact (right_3 h0 ‹k < _› (ok_1a (by omega) (by omega))).symm
       ·refine AG 8 rfl rfl (bF h33) (hH31.sub sR) (fun w hS => run_ldA (cs := [B _, _]) underlying47 rfl rfl rfl (rangeAt_cells (hS.blk (i := 0) rfl))) <| AG 9 rfl rfl (bF h33) (hH31.sub sR) (fun w hS => fA underlying32 0 rfl sizeOf30 e3_11) <| AG 10 rfl rfl (bF h33) (hH31.sub sR) (fun w hS => run_ldV (ha.labels.sl.hp hS) underlying30 rfl rfl (hS.cell (i := 2) rfl rfl)) <| AG 11 rfl rfl (bF h33) (hH31.sub sR) (fun w hS => mV (I _) rfl) <| AG 12 rfl rfl (bF h33) (hH31.sub sR) (fun w hS => run_indexAddrS (ha.labels.sl.hp hS) underlying30 sizeOf25 rfl rfl (by omega)) <| AG 13 rfl rfl (bF h33) (hH31.sub sR) (fun w hS => run_ldElS (ha.labels.sl.hp hS) underlying25 rfl rfl rfl (by omega)) <| A1 14 <| AO.callP rfl (gsome rfl (bF h33)) rfl hH31 sR (c_shape_Fits _ _  _ ((hs.at (by omega) (by omega)).mono hH31.kw) (hT.hp hH31)) (run_call2 call21 rfl rfl) <| fun w34 hH35 => AG 15 rfl rfl (bF h33) (hH35.sub sR) (fun w hS => run_not rfl) <| AQ 16 rfl (hH35.sub sR) (run_pickF (bF h33) (v := B _) rfl) <| AD <| CW.cond rfl (fun h38 => ?_) (fun h38 => ?_)
        ·refine SR <| va (v := B false) rfl <| RL.nil <| CW.ret <| outP1 Tryd.results12 (congrArg B ?_) hH35.below
         exact (right_3 h0 ‹k < _› (ok_1b (by omega) (nt ‹(!fitsS _ _) = true›))).symm
        ·refine CW.skip <| CW.region <| V (run_add e27_11 rfl (by omega)) <| mI rfl <| RL.nil <| ?_
         refine ⟨k + 1, ?_, fr11.u4.u4.u4.u4.u4.u4.u4.u4.u4.u4.u4.u4, (hH35.sub (sQ (sQ sR))), (congrArg I (by rfl)), ?_, ?_, ?_⟩
         ·((try dsimp only); omega)
         ·omega
         ·omega
         ·exact fun i u v => if e : i = k then e ▸ (by exact ok_y1 ⟨by omega, by omega⟩ (by omega) (by omega) (nf ‹(!fitsS _ _) = false›)) else hg i u (by omega)
      ·refine SR <| V (run_eql rfl rfl) <| aB rfl <| RL.nil <| CW.condP rfl (fun h40 => ?_) (fun h40 => ?_)
       ·refine CW.seq <| CW.regionD (by kernel_rfl) hH27 <| fun w41 hH42 => have zh42 := hH42.sub sR; AQ 0 rfl zh42 (fA underlying32 0 rfl sizeOf30 e3_11) <| AT 1 rfl zh42 (fun w hS => run_ldV (ha.labels.sl.hp hS) underlying30 rfl rfl (hS.cell (i := 2) rfl rfl)) <| AQ 2 rfl zh42 (mV (I _) rfl) <| AT 3 rfl zh42 (fun w hS => run_indexAddrS (ha.labels.sl.hp hS) underlying30 sizeOf25 rfl rfl (by omega)) <| AT 4 rfl zh42 (fun w hS => run_ldElS (ha.labels.sl.hp hS) underlying25 rfl rfl rfl (by omega)) <| AQ 5 rfl zh42 (run_bld (vs := []) rfl (built_el0)) <| AQ 6 rfl zh42 (run_neqEl elT_fact rfl rfl) <| AQ 7 rfl zh42 (mV (B _) rfl) <| AN.split (dj := 80) rfl (fun h44 => ?_) (fun h44 => ?_)
        ·refine AK 8 rfl rfl (bR (c := true) h44) (hH42.sub sR) <| AK 9 rfl rfl (bR (c := true) h44) (hH42.sub sR) <| AK 10 rfl rfl (bR (c := true) h44) (hH42.sub sR) <| AK 11 rfl rfl (bR (c := true) h44) (hH42.sub sR) <| AK 12 rfl rfl (bR (c := true) h44) (hH42.sub sR) <| AK 13 rfl rfl (bR (c := true) h44) (hH42.sub sR) <| AK 14 rfl rfl (bR (c := true) h44) (hH42.sub sR) <| AQ 15 rfl zh42 (run_pickT (bR (c := true) h44) (v := B true) rfl) <| AQ 16 rfl zh42 (mV (B _) rfl) <| AK 17 rfl rfl rfl (hH42.sub sR) <| AK 18 rfl rfl rfl (hH42.sub sR) <| AK 19 rfl rfl rfl (hH42.sub sR) <| AK 20 rfl rfl rfl (hH42.sub sR) <| AK 21 rfl rfl rfl (hH42.sub sR) <| AK 22 rfl rfl rfl (hH42.sub sR) <| AK 23 rfl rfl rfl (hH42.sub sR) <| AK 24 rfl rfl rfl (hH42.sub sR) <| AQ 25 rfl zh42 (run_pickT rfl (v := B true) rfl) <| AD <| CW.condT rfl <| SR <| va (v := B false) rfl <| RL.nil <| CW.ret <| outP1 Tryd.results12 (congrArg B ?_) hH42.below
         exact (right_3 h0 ‹k < _› (ok_2a (by omega) (nt ‹(!decide (eqE _ _)) = true›))).symm
        ·refine AG 8 rfl rfl (bR (c := false) h44) (hH42.sub sR) (fun w hS => fA underlying32 1 rfl sizeOf29 e3_11) <| AG 9 rfl rfl (bR (c := false) h44) (hH42.sub sR) (fun w hS => run_ldV (ha.rows.sl.hp hS) underlying29 rfl rfl (hS.cell (i := 2) rfl rfl)) <| AG 10 rfl rfl (bR (c := false) h44) (hH42.sub sR) (fun w hS => mV (I _) rfl) <| AG 11 rfl rfl (bR (c := false) h44) (hH42.sub sR) (fun w hS => run_indexAddrS (ha.rows.sl.hp hS) underlying29 sizeOf22 rfl rfl (by omega)) <| AG 12 rfl rfl (bR (c := false) h44) (hH42.sub sR) (fun w hS => run_ld underlying22 rfl rfl ((ha.rows.sl.hp hS).cell _ _ (rowsC_at (by omega)))) <| A1 13 <| AO.callP rfl (gsome rfl (bR (c := false) h44)) rfl hH42 sR (c_assign_ordered _ _  _ ((ha.at (by omega) (by omega)).sl.hp hH42)) (run_call1 call22 rfl) <| fun w45 hH46 => AG 14 rfl rfl (bR (c := false) h44) (hH46.sub sR) (fun w hS => run_not rfl) <| have zh46 := hH46.sub sR; AQ 15 rfl zh46 (run_pickF (bR (c := false) h44) (v := B _) rfl) <| AQ 16 rfl zh46 (mV (B _) rfl) <| AN.split (dj := 89) rfl (fun h49 => ?_) (fun h49 => ?_)
         ·refine AK 17 rfl rfl (bR (c := true) h49) (hH46.sub sR) <| AK 18 rfl rfl (bR (c := true) h49) (hH46.sub sR) <| AK 19 rfl rfl (bR (c := true) h49) (hH46.sub sR) <| AK 20 rfl rfl (bR (c := true) h49) (hH46.sub sR) <| AK 21 rfl rfl (bR (c := true) h49) (hH46.sub sR) <| AK 22 rfl rfl (bR (c := true) h49) (hH46.sub sR) <| AK 23 rfl rfl (bR (c := true) h49) (hH46.sub sR) <| AK 24 rfl rfl (bR (c := true) h49) (hH46.sub sR) <| AQ 25 rfl zh46 (run_pickT (bR (c := true) h49) (v := B true) rfl) <| AD <| CW.condT rfl <| SR <| va (v := B false) rfl <| RL.nil <| CW.ret <| outP1 Tryd.results12 (congrArg B ?_) hH46.below
          exact (right_3 h0 ‹k < _› (ok_2b (by omega) (nt ‹(!orderedF _) = true›))).symm
         ·refine AG 17 rfl rfl (bR (c := false) h49) (hH46.sub sR) (fun w hS => run_ldA (cs := [B _, _]) underlying47 rfl rfl rfl (rangeAt_cells (hS.blk (i := 0) rfl))) <| AG 18 rfl rfl (bR (c := false) h49) (hH46.sub sR) (fun w hS => fA underlying32 1 rfl sizeOf29 e3_11) <| AG 19 rfl rfl (bR (c := false) h49) (hH46.sub sR) (fun w hS => run_ldV (ha.rows.sl.hp hS) underlying29 rfl rfl (hS.cell (i := 2) rfl rfl)) <| AG 20 rfl rfl (bR (c := false) h49) (hH46.sub sR) (fun w hS => mV (I _) rfl) <| AG 21 rfl rfl (bR (c := false) h49) (hH46.sub sR) (fun w hS => run_indexAddrS (ha.rows.sl.hp hS) underlying29 sizeOf22 rfl rfl (by omega)) <| AG 22 rfl rfl (bR (c := false) h49) (hH46.sub sR) (fun w hS => run_ld underlying22 rfl rfl ((ha.rows.sl.hp hS).cell _ _ (rowsC_at (by omega)))) <| A1 23 <| AO.callP rfl (gsome rfl (bR (c := false) h49)) rfl hH46 sR (c_assign_fits _ _ _  _ ((ha.at (by omega) (by omega)).sl.hp hH46) ((hs.at (by omega) (by omega)).mono hH46.kw) (hT.hp hH46)) (run_call2 call23 rfl rfl) <| fun w50 hH51 => AG 24 rfl rfl (bR (c := false) h49) (hH51.sub sR) (fun w hS => run_not rfl) <| AQ 25 rfl (hH51.sub sR) (run_pickF (bR (c := false) h49) (v := B _) rfl) <| AD <| CW.cond rfl (fun h54 => ?_) (fun h54 => ?_)
          ·refine SR <| va (v := B false) rfl <| RL.nil <| CW.ret <| outP1 Tryd.results12 (congrArg B ?_) hH51.below
           exact (right_3 h0 ‹k < _› (ok_2c (by omega) (nt ‹(!fitsF _ _) = true›))).symm
          ·refine CW.skip <| CW.region <| V (run_add e27_11 rfl (by omega)) <| mI rfl <| RL.nil <| ?_
           refine ⟨k + 1, ?_, fr11.u4.u4.u4.u4.u4.u4.u4.u4.u4.u4.u4.u4.u4.u4.u1.u1.u1, (hH51.sub (sQ (sQ sR))), (congrArg I (by rfl)), ?_, ?_, ?_⟩
           ·((try dsimp only); omega)
           ·omega
           ·omega
           ·exact fun i u v => if e : i = k then e ▸ (by exact ok_y2 ⟨by omega, by omega⟩ (by omega) (nf ‹(!decide (eqE _ _)) = false›) (nf ‹(!orderedF _) = false›) (nf ‹(!fitsF _ _) = false›)) else hg i u (by omega)
       ·refine SR <| va (v := B false) rfl <| RL.nil <| CW.ret <| outP1 Tryd.results12 (congrArg B ?_) hH27.below
        exact (right_3 h0 ‹k < _› (ok_x (by omega) (by omega))).symm
   ·refine CW.exit (id := 0) rfl <| SR <| va (v := B true) rfl <| RL.nil <| CW.ret <| outP1 Tryd.results12 (congrArg B ?_) hH11.below
    exact (right_y e1 e2 ‹¬ k < _› hg).symm
theorem c_clearancelaw18_Big (a : Asg) (hbd : ∀ r ∈ a.rows, r.l.length ≤ 1759218604390) (w : World) (ha : AsgV (Kw w) a) : Calls Tryd.prog 4 #[.agg (asgL a).toArray] w (Pure (B (bigA a)) w) := by
 have hm1 := ha.labels.small
 have hm2 := ha.rows.small
 unfold maxLen at hm1 hm2
 refine enter Tryd.func4 rfl Tryd.ntmps4 rfl <| have hH := Hp.start w; SR <| RL.new rfl hH (f := fun b => (.pointer (some ⟨b, 0, none⟩))) (run_box (v := .agg _) rfl) <| fun b3 w1 hH2 => va (v := B false) rfl <| RL.nil <| CW.seq <| SR <| V (fA underlying32 0 rfl sizeOf30 rfl) <| V (run_ldV (ha.labels.sl.hp hH2) underlying30 rfl rfl (hH2.cell (i := 0) rfl rfl)) <| V (run_lenSl (ha.labels.sl.hp hH2) rfl underlying30 rfl) <| V (run_gtr rfl rfl) <| mB rfl <| RL.splitP (dj := 12) rfl (fun h5 => ?_) (fun h5 => ?_)
 ·refine gF rfl (bT h5) <| gF rfl (bT h5) <| gF rfl (bT h5) <| gF rfl (bT h5) <| V (run_pickT (bT h5) (v := B true) rfl) <| RL.nil <| CW.condT rfl <| SR <| va (v := B true) rfl <| RL.nil <| CW.ret <| outP1 Tryd.results4 (congrArg B ?_) hH2.below
  (rw [bigA, decide_eq_true (by omega)]; rfl)
 ·refine gT rfl (bF h5) <| V (fA underlying32 1 rfl sizeOf29 rfl) <| gT rfl (bF h5) <| V (run_ldV (ha.rows.sl.hp hH2) underlying29 rfl rfl (hH2.cell (i := 0) rfl rfl)) <| gT rfl (bF h5) <| V (run_lenSl (ha.rows.sl.hp hH2) rfl underlying29 rfl) <| gT rfl (bF h5) <| V (run_gtr rfl rfl) <| V (run_pickF (bF h5) (v := B _) rfl) <| RL.nil <| CW.condP rfl (fun h7 => ?_) (fun h7 => ?_)
  ·refine SR <| va (v := B true) rfl <| RL.nil <| CW.ret <| outP1 Tryd.results4 (congrArg B ?_) hH2.below
   (rw [bigA, decide_eq_true (by omega)]; rfl)
  ·refine CW.skip <| SR <| va (v := I 0) rfl <| RL.nil <| CW.seq <| SR <| V (fA underlying32 1 rfl sizeOf29 rfl) <| V (run_ldV (ha.rows.sl.hp hH2) underlying29 rfl rfl (hH2.cell (i := 0) rfl rfl)) <| V (run_lenSl (ha.rows.sl.hp hH2) rfl underlying29 rfl) <| vm (v := I 0) rfl <| RL.nil <| CW.block <| have hno : ¬ (100 < a.labels.length ∨ 100 < a.rows.length) := (by omega); CW.loop (G := Int) (fun k s' w' => (Fr (2 :: 3 :: (5 :: (7 :: (rg 21 20 [])))) _ s') ∧ (Hp w w' _) ∧ (s' 3 = I (rsum (a.rows.take k.toNat))) ∧ (s' 21 = I k) ∧ (0 ≤ k) ∧ (k ≤ a.rows.length) ∧ (∀ i : Int, 0 ≤ i → i < k → bigR (a.rows.getD i.toNat vr0) = false)) (fun k => (a.rows.length - k).toNat) (0) ⟨Fr.refl _ _, hH2, rfl, rfl, (by omega), (by omega), fun j a b => absurd b (by omega)⟩ <| ?_
   rintro k sg8 w8 ⟨fr8, hH8, e3_8, e21_8, h0, hk, hg⟩
   have e19_8 := (fr8 19 rfl).trans (by conv => lhs; whnf)
   have e20_8 := fr8.ii 20 rfl rfl
   refine SR <| V (run_lss e21_8 e20_8) <| RL.nil <| CW.seq <| CW.condP rfl (fun h10 => ?_) (fun h10 => ?_)
   ·refine CW.skip <| CW.seq <| CW.block <| SR <| V (run_indexAddrS (ha.rows.sl.hp hH8) underlying29 sizeOf22 e19_8 e21_8 (by omega)) <| V (run_ld underlying22 rfl rfl ((ha.rows.sl.hp hH8).cell _ _ (rowsC_at (by omega)))) <| ?_
    refine V (run_assign (by conv => lhs; whnf)) ?_
    refine RL.nil <| SR <| vm e3_8 <| ?_
    refine V (run_move (by conv => lhs; whnf)) ?_
    refine V (run_lenSl ((ha.at (by omega) (by omega)).sl.hp hH8) rfl underlying22 rfl) <| V (run_add rfl rfl (by have hb2 := hbd _ (List.mem_of_getElem? (getD_at (d := vr0) h0 ‹k < _›)); have hb3 := rsum_bd hbd h0 (show k ≤ 100 by omega); omega)) <| aI rfl <| RL.nil <| SR <| ?_
    refine V (run_move (by conv => lhs; whnf)) ?_
    refine V (run_lenSl ((ha.at (by omega) (by omega)).sl.hp hH8) rfl underlying22 rfl) <| vm (v := I 0) rfl <| RL.nil <| CW.block <| have hm5 := (ha.at h0 (by omega)).small; ?_
    unfold maxLen at hm5
    refine CW.loop (G := Int) (fun q s' w' => (Fr (2 :: (7 :: (rg 31 9 []))) _ s') ∧ (Hp w w' _) ∧ (s' 31 = I q) ∧ (0 ≤ q) ∧ (q ≤ (a.rows.getD k.toNat vr0).l.length) ∧ (∀ i : Int, 0 ≤ i → i < q → bigNm ((a.rows.getD k.toNat vr0).l.getD i.toNat val0) = false)) (fun q => ((a.rows.getD k.toNat vr0).l.length - q).toNat) (0) ⟨Fr.refl _ _, hH8, rfl, (by omega), (by omega), fun j a b => absurd b (by omega)⟩ ?_
    rintro q sg11 w11 ⟨fr11, hH11, e31_11, q0, qk, hq⟩
    have e3_11 := fr11.ii 3 rfl rfl
    have e21_11 := (fr11 21 rfl).trans e21_8
    have e29_11 := (fr11 29 rfl).trans (by conv => lhs; whnf)
    have e30_11 := fr11.ii 30 rfl rfl
    refine SR <| V (run_lss e31_11 e30_11) <| RL.nil <| CW.seq <| CW.condP rfl (fun h13 => ?_) (fun h13 => ?_)
    ·refine CW.skip <| CW.seq <| CW.block <| SR <| V (run_indexAddrS ((ha.at (by omega) (by omega)).sl.hp hH11) underlying22 sizeOf27 e29_11 e31_11 (by omega)) <| V (run_ldE (dv := val0) valL_len ((ha.at (by omega) (by omega)).sl.hp hH11) underlying27 rfl rfl rfl (by omega)) <| RL.new rfl hH11 (f := fun b => (.pointer (some ⟨b, 0, none⟩))) (run_alloc zero_val) <| fun b16 w14 hH15 => RL.set hH15 (i := 0) rfl (run_stW (c' := (valL _).toArray) rfl rfl rfl (valL_one _) (hH15.blk (i := 0) rfl) rfl) <| fun w17 hH18 => ?_
     simp only [z2] at hH18
     refine RL.nil <| SR <| V (fA underlying27 0 rfl sizeOf9 rfl) <| V (run_ld underlying9 rfl rfl (hH18.cell (i := 0) rfl (v := .string _) rfl)) <| V (run_lenStr rfl underlying9 rfl) <| V (run_gtr rfl rfl) <| RL.nil <| CW.condP rfl (fun h20 => ?_) (fun h20 => ?_)
     ·refine SR <| va (v := B true) rfl <| RL.nil <| CW.ret <| outP1 Tryd.results4 (congrArg B ?_) hH18.below
      (rw [bigA, any_yes (d := vr0) (P := bigR) h0 ‹k < _› (any_yes (d := val0) (P := bigNm) q0 ‹q < _› (decide_eq_true (by omega)))]; simp; done)
     ·refine CW.skip <| CW.region <| V (run_add e31_11 rfl (by omega)) <| mI rfl <| RL.nil <| ?_
      refine ⟨q + 1, ?_, fr11.u4.u4.u1.u1, (hH18.sub (sQ sR)), (congrArg I (by rfl)), ?_, ?_, ?_⟩
      ·((try dsimp only); omega)
      ·omega
      ·omega
      ·exact fun i u v => if e : i = q then e ▸ decide_eq_false (by omega) else hq i u (by omega)
    ·refine CW.exit (id := 2) rfl <| CW.region <| V (run_add e21_11 rfl (by omega)) <| mI rfl <| RL.nil <| ?_
     refine ⟨k + 1, ?_, (((fr8.u4.u4.u4).t fr11 rfl)).u1.u1.u1, hH11, (Eq.trans e3_11 (congrArg I (rsum_next h0 ‹k < _›).symm)), (congrArg I (by rfl)), ?_, ?_, ?_⟩
     ·((try dsimp only); omega)
     ·omega
     ·omega
     ·exact fun i u v => if e : i = k then e ▸ any_no (d := val0) ‹¬ q < _› hq else hg i u (by omega)
   ·refine CW.exit (id := 0) rfl <| SR <| vm e3_8 <| V (run_gtr rfl rfl) <| aB rfl <| RL.nil <| CW.ret <| outP1 Tryd.results4 (congrArg B ?_) hH8.below
    (rw [bigA, decide_eq_false hno, any_no (d := vr0) (P := bigR) ‹¬ k < _› hg, rsum_all ‹¬ k < _›]; rfl)
theorem c_name_Join (v : Value) (l : List Tx) (b : Tx) (hz : szJ b l ≤ 200000000000) (w : World) (hs : Sl w v 1 l.length (txL l)) : Calls Tryd.prog 20 #[v, S b] w (Pure (S (joinF b l)) w) := by
 have hm := hs.small
 unfold maxLen at hm
 refine enter Tryd.func20 rfl Tryd.ntmps20 rfl <| have hH := Hp.start w; SR <| va (v := .string ⟨#[]⟩) rfl <| RL.nil <| SR <| va (v := .slice none 0 0) rfl <| have hH1 := hH.nilRow 5 1; RL.nil <| CW.seq <| SR <| ?_
 refine V (run_move (by conv => lhs; whnf)) ?_
 refine V (run_lenSl (hs.hp hH1) rfl underlying39 rfl) <| vm (v := I 0) rfl <| RL.nil <| CW.block <| CW.loop (G := Int × Tx × Value) (fun ⟨k, m, v5⟩ s' w' => (Fr (5 :: 6 :: (rg 9 15 [])) _ s') ∧ (Hp w w' (.row v5 5 1 (m.size) (byL m) :: _)) ∧ (s' 5 = v5) ∧ (s' 9 = I k) ∧ (0 ≤ k) ∧ (k ≤ l.length) ∧ (m = joinTo b l k)) (fun ⟨k, m, v5⟩ => (l.length - k).toNat) ((0, tx0, (.slice none 0 0 : Value))) ⟨Fr.refl _ _, hH1, rfl, rfl, (by omega), (by omega), rfl⟩ <| ?_
 rintro ⟨k, m, v5⟩ sg2 w2 ⟨fr2, hH2, e5_2, e9_2, h0, hk, hm⟩
 have e0_2 := (fr2 0 rfl).trans (by conv => lhs; whnf)
 have e1_2 := fr2.ss 1 rfl rfl
 have e8_2 := fr2.ii 8 rfl rfl
 subst hm
 refine SR <| V (run_lss e9_2 e8_2) <| RL.nil <| CW.seq <| CW.condP rfl (fun h4 => ?_) (fun h4 => ?_)
 ·refine CW.skip <| CW.seq <| CW.block <| SR <| vm e9_2 <| aI rfl <| RL.nil <| CW.seq <| SR <| mI rfl <| V (run_gtr rfl rfl) <| RL.nil <| CW.condP rfl (fun h6 => ?_) (fun h6 => ?_)
  ·refine CW.region <| vm e5_2 <| vm e1_2 <| RL.appS rfl hH2 (i := 0) rfl rfl rfl underlying79 underlying9 rfl rfl rfl rfl (by have hjz := joinTo_sz (b := b) h0 ‹k < l.length›; (try simp only [List.length_cons, List.length_nil]); omega) <| fun v7 w8 hH9 => ?_
   simp only [z2] at hH9
   refine V (run_assign (by conv => lhs; whnf)) ?_
   refine RL.nil <| CW.region <| ?_
   refine V (run_move (by conv => lhs; whnf)) ?_
   refine vm e0_2 <| mI rfl <| V (run_indexAddrS (hs.hp hH9) underlying39 sizeOf9 rfl rfl (by omega)) <| V (run_ld underlying9 rfl rfl ((hs.hp hH9).cell _ _ (txL_at (by omega)))) <| RL.appS rfl hH9 (i := 0) rfl rfl rfl underlying79 underlying9 rfl rfl rfl rfl (by have hjz := joinTo_sz (b := b) h0 ‹k < l.length›; (try simp only [List.length_cons, List.length_nil]); omega) <| fun v10 w11 hH12 => ?_
   simp only [z2] at hH12
   refine V (run_assign (by conv => lhs; whnf)) ?_
   refine RL.nil <| CW.region <| V (run_add e9_2 rfl (by omega)) <| mI rfl <| RL.nil <| ?_
   refine ⟨(k + 1, joinTo b l (k + 1), v10), ?_, fr2.u4.u4.u4.u4.u1.u1, (Hp.conv hH12 (by rw [← join_2 ‹0 < k› ‹k < _›, tx_size_app, tx_size_app, byL_app, byL_app]; done)), rfl, (congrArg I (by rfl)), ?_, ?_, ?_⟩
   ·((try dsimp only); omega)
   ·omega
   ·omega
   ·rfl
  ·refine CW.skip <| CW.region <| vm e5_2 <| vm e0_2 <| mI rfl <| V (run_indexAddrS (hs.hp hH2) underlying39 sizeOf9 rfl rfl (by omega)) <| V (run_ld underlying9 rfl rfl ((hs.hp hH2).cell _ _ (txL_at (by omega)))) <| RL.appS rfl hH2 (i := 0) rfl rfl rfl underlying79 underlying9 rfl rfl rfl rfl (by have hjz := joinTo_sz (b := b) h0 ‹k < l.length›; (try simp only [List.length_cons, List.length_nil]); omega) <| fun v13 w14 hH15 => ?_
   simp only [z2] at hH15
   refine V (run_assign (by conv => lhs; whnf)) ?_
   refine RL.nil <| CW.region <| V (run_add e9_2 rfl (by omega)) <| mI rfl <| RL.nil <| ?_
   refine ⟨(k + 1, joinTo b l (k + 1), v13), ?_, fr2.u4.u4.u4.u1.u1, (Hp.conv hH15 (by rw [← join_1 (show k = 0 by omega) ‹k < _›, tx_size_app, byL_app])), rfl, (congrArg I (by rfl)), ?_, ?_, ?_⟩
   ·((try dsimp only); omega)
   ·omega
   ·omega
   ·rfl
 ·refine CW.exit (id := 0) rfl <| SR <| vm e5_2 <| V (run_convBS (s := (joinTo b l k)) (hH2.sl (i := 0) rfl) underlying79 underlying5 underlying9 rfl) <| va (v := .string _) rfl <| RL.nil <| CW.ret <| outP1 Tryd.results20 ?_ hH2.below
  exact congrArg S (join_all ‹¬ k < _›)
theorem c_assign_row (s : Shp) (v : Value) (l : List ValR) (hn : ∀ v ∈ l, v.name.size ≤ 40) (hl : l.length ≤ 1000) (w : World) (hs : Sl w v 9 l.length (l.flatMap valL)) (hsh : ShpV (Kw w) s) (hT : Tab w) : Calls Tryd.prog 19 #[.agg (shpC s), v] w (Pure (S (rowT s.sh l)) w) := by
 have hm := hs.small
 unfold maxLen at hm
 refine enter Tryd.func19 rfl Tryd.ntmps19 rfl <| have hH := Hp.start w; SR <| RL.new rfl hH (f := fun b => (.pointer (some ⟨b, 0, none⟩))) (run_box (v := .agg _) rfl) <| fun b3 w1 hH2 => va (v := .string ⟨#[]⟩) rfl <| RL.nil <| SR <| va (v := .slice none 0 0) rfl <| have hH4 := hH2.nilRow 9 1; RL.nil <| CW.seq <| SR <| ?_
 refine V (run_move (by conv => lhs; whnf)) ?_
 refine V (run_lenSl (hs.hp hH4) rfl underlying22 rfl) <| vm (v := I 0) rfl <| RL.nil <| CW.block <| CW.loop (G := Int × (List Tx) × Value) (fun ⟨k, m, v5⟩ s' w' => (Fr (5 :: (7 :: (rg 10 16 []))) _ s') ∧ (Hp w w' (.row v5 9 1 (m.length) (txL m) :: _)) ∧ (s' 5 = v5) ∧ (s' 10 = I k) ∧ (0 ≤ k) ∧ (k ≤ l.length) ∧ (m = (l.take k.toNat).map (fieldT s.sh)) ∧ ((m.length : Int) = k)) (fun ⟨k, m, v5⟩ => (l.length - k).toNat) ((0, [], (.slice none 0 0 : Value))) ⟨Fr.refl _ _, hH4, rfl, rfl, (by omega), (by omega), rfl, rfl⟩ <| ?_
 rintro ⟨k, m, v5⟩ sg5 w5 ⟨fr5, hH5, e5_5, e10_5, h0, hk, hm, hml⟩
 have e2_5 := fr5.pp 2 rfl rfl
 have e8_5 := (fr5 8 rfl).trans (by conv => lhs; whnf)
 have e9_5 := fr5.ii 9 rfl rfl
 refine SR <| V (run_lss e10_5 e9_5) <| RL.nil <| CW.seq <| CW.condP rfl (fun h7 => ?_) (fun h7 => ?_)
 ·refine CW.skip <| CW.seq <| CW.block <| SR <| V (run_indexAddrS (hs.hp hH5) underlying22 sizeOf27 e8_5 e10_5 (by omega)) <| V (run_ldE (dv := val0) valL_len (hs.hp hH5) underlying27 rfl rfl rfl (by omega)) <| RL.new rfl hH5 (f := fun b => (.pointer (some ⟨b, 0, none⟩))) (run_alloc zero_val) <| fun b10 w8 hH9 => RL.set hH9 (i := 0) rfl (run_stW (c' := (valL _).toArray) rfl rfl rfl (valL_one _) (hH9.blk (i := 0) rfl) rfl) <| fun w11 hH12 => ?_
  simp only [z2] at hH12
  refine RL.nil <| CW.regionS (by kernel_rfl) hH12 (sP (sQ sR)) <| fun w13 hH14 => have zh14 := hH14.sub (sP (sQ sR)); AQ 0 rfl zh14 (run_move e5_5) <| AQ 1 rfl zh14 (fA underlying27 0 rfl sizeOf9 rfl) <| AT 2 rfl zh14 (fun w hS => run_ld underlying9 rfl rfl (hS.cell (i := 0) rfl (v := .string _) rfl)) <| AQ 3 rfl zh14 (run_addS rfl rfl (by have hnk := hn _ (List.mem_of_getElem? (getD_at (d := val0) h0 ‹k < _›)); have hss := spell_sz s.sh (l.getD k.toNat val0).el; (try simp only [tx_size_app]); (try simp only [tsz1, tsz2]); omega)) <| AT 4 rfl zh14 (fun w hS => run_ldA (cs := [B _, _]) underlying47 rfl rfl e2_5 (rangeAt_cells (hS.blk (i := 1) rfl))) <| AQ 5 rfl zh14 (fA underlying27 1 rfl sizeOf25 rfl) <| AT 6 rfl zh14 (fun w hS => run_ldVB underlying25 rfl rfl rfl (hS.blk (i := 0) rfl)) <| A1 7 <| AO.callP rfl gnone rfl hH14 (sP (sQ sR)) (c_spell_Text _ _  _ (hsh.mono hH14.kw) (hT.hp hH14)) (run_call2 call18 rfl rfl) <| fun w15 hH16 => AQ 8 rfl (hH16.sub (sP (sQ sR))) (run_addS rfl rfl (by have hnk := hn _ (List.mem_of_getElem? (getD_at (d := val0) h0 ‹k < _›)); have hss := spell_sz s.sh (l.getD k.toNat val0).el; (try simp only [tx_size_app]); (try simp only [tsz1, tsz2]); omega)) <| A1 9 <| AO.new rfl gnone rfl hH16 (sP (sQ sR)) (f := fun b => .slice (some ⟨b, 0, none⟩) 1 1) (run_mkL underlying39 rfl rfl (sz := 1) (vs := [.string _]) rfl rfl (by decide) (by decide) rfl rfl) <| fun b19 w17 hH18 => ?_
  (try simp only [clX] at hH18)
  refine A1 10 <| AO.app rfl gnone rfl hH18 (j := 2) rfl (fun _ => (sQ (sP (sQ sR)))) (hH18.slBlk (i := 0) (n := 1) (sz := 1) rfl rfl (by decide)) rfl rfl underlying39 rfl rfl (size := 1) (bytes := 16) rfl rfl rfl (by decide) (by simp [Value.oneCell']) (by omega) (by simp only [maxLen]; omega) <| fun v22 w20 hH21 => ?_
  simp only [z2] at hH21
  refine AQ 11 rfl (hH21.sub (sQ (sP (sQ sR)))) (run_assign (by conv => lhs; whnf)) ?_
  refine AD <| CW.region <| V (run_add e10_5 rfl (by omega)) <| mI rfl <| RL.nil <| ?_
  refine ⟨(k + 1, m ++ [fieldT s.sh (l.getD k.toNat val0)], v22), ?_, fr5.u4.u4.u4.u4.u1.u1, (Hp.conv (hH21.sub (sQ (sQ sR))) (by (simp only [txL, List.map_append, List.map_cons, List.map_nil, List.length_append, List.length_singleton]; rfl))), rfl, (congrArg I (by rfl)), ?_, ?_, ?_, ?_⟩
  ·((try dsimp only); omega)
  ·omega
  ·omega
  ·rw [fields_next h0 ‹k < _›, ← hm]
  ·simp only [List.length_append, List.length_singleton]; omega
 ·refine CW.exit (id := 0) rfl <| SR <| vm e5_5 <| RL.callP rfl hH5 (c_name_Join _ m (tc 44) (by rw [hm, List.take_of_length_le (show l.length ≤ k.toNat by omega)]; have := fields_sz (s := s.sh) hn hl; omega) _ (hH5.sl (i := 0) rfl)) (run_call2 call20 rfl (show _ = Value.string ⟨#[44]⟩ from rfl)) <| fun w23 hH24 => V (run_addS rfl rfl (by have he : m = l.map (fieldT s.sh) := (by rw [hm, List.take_of_length_le (show l.length ≤ k.toNat by omega)]); rw [he]; have hjs := join_sz (tc 44) (l.map (fieldT s.sh)); have hfs := fields_sz (s := s.sh) hn hl; (try simp only [tx_size_app]); (try simp only [tsz1, tsz2]); omega)) <| V (run_addS rfl rfl (by have he : m = l.map (fieldT s.sh) := (by rw [hm, List.take_of_length_le (show l.length ≤ k.toNat by omega)]); rw [he]; have hjs := join_sz (tc 44) (l.map (fieldT s.sh)); have hfs := fields_sz (s := s.sh) hn hl; (try simp only [tx_size_app]); (try simp only [tsz1, tsz2]); omega)) <| va (v := .string _) rfl <| RL.nil <| CW.ret <| outP1 Tryd.results19 ?_ hH24.below
  (rw [hm, List.take_of_length_le (show l.length ≤ k.toNat by omega)]; rfl)
theorem c_assign_Text (s : Scp) (a : Asg) (hv : s.vars.length ≤ 80) (hvn : ∀ v ∈ s.vars, v.name.size ≤ 40) (hrl : ∀ r ∈ a.rows, r.l.length ≤ 200) (w : World) (hs : ScpV (Kw w) s) (ha : AsgV (Kw w) a) (hT : Tab w) : Calls Tryd.prog 11 #[.agg (scpC s), .agg (asgL a).toArray] w (Pure (S (textA s.sc a.as)) w) := by
 have hm1 := hs.lats.sl.small
 have hm2 := hs.vars.sl.small
 unfold maxLen at hm1 hm2
 have hm3 := ha.labels.small
 have hm4 := ha.rows.small
 unfold maxLen at hm3 hm4
 refine enter Tryd.func11 rfl Tryd.ntmps11 rfl <| have hH := Hp.start w; SR <| RL.new rfl hH (f := fun b => (.pointer (some ⟨b, 0, none⟩))) (run_box (v := .agg _) rfl) <| fun b3 w1 hH2 => RL.new rfl hH2 (f := fun b => (.pointer (some ⟨b, 0, none⟩))) (run_box (v := .agg _) rfl) <| fun b6 w4 hH5 => va (v := .string ⟨#[]⟩) rfl <| RL.nil <| CW.seq <| SR <| V (run_ldA (cs := scpL _) underlying55 rfl rfl rfl (rangeAt_cells (hH5.blk (i := 1) rfl))) <| V (run_ldA (cs := asgL _) underlying32 rfl rfl rfl (rangeAt_cells (hH5.blk (i := 0) rfl))) <| RL.callP rfl hH5 (c_assign_Right _ _  _ (hs.mono hH5.kw) (ha.mono hH5.kw) (hT.hp hH5)) (run_call2 call12 rfl rfl) <| fun w7 hH8 => V (run_not rfl) <| RL.nil <| CW.cond rfl (fun h11 => ?_) (fun h11 => ?_)
 ·refine SR <| va (v := .string ⟨#[]⟩) rfl <| RL.nil <| CW.ret <| outP1 Tryd.results11 ?_ hH8.below
  exact congrArg S (text_no (nt ‹(!rightA _ _) = true›)).symm
 ·refine CW.skip <| SR <| va (v := .slice none 0 0) rfl <| have hH12 := hH8.nilRow 9 1; RL.nil <| CW.seq <| SR <| V (fA underlying55 1 rfl sizeOf53 rfl) <| V (run_ldV (hs.vars.sl.hp hH12) underlying53 rfl rfl (hH12.cell (i := 2) rfl rfl)) <| V (run_lenSl (hs.vars.sl.hp hH12) rfl underlying53 rfl) <| vm (v := I 0) rfl <| RL.nil <| CW.block <| have hR := nf ‹(!rightA _ _) = false›; have hrl2 := right_len hR; have hvz : szJ (tc 32) (VS s a) ≤ 160003443520 := vars_sz hR hv hvn hrl; have hVl := VS_len (s := s) (a := a); CW.loop (G := Int × (List Tx) × Value) (fun ⟨k, m, v5⟩ s' w' => (Fr (rg 5 4 (rg 16 44 [])) _ s') ∧ (Hp w w' (.row v5 9 1 (m.length) (txL m) :: _)) ∧ (s' 5 = v5) ∧ (s' 16 = I k) ∧ (0 ≤ k) ∧ (k ≤ s.vars.length) ∧ (m = varsT s.sc a.as k)) (fun ⟨k, m, v5⟩ => (s.vars.length - k).toNat) ((0, [], (.slice none 0 0 : Value))) ⟨Fr.refl _ _, hH12, rfl, rfl, (by omega), (by omega), rfl⟩ <| ?_
  rintro ⟨k, m, v5⟩ sg13 w13 ⟨fr13, hH13, e5_13, e16_13, h0, hk, hm⟩
  have e2_13 := fr13.pp 2 rfl rfl
  have e3_13 := fr13.pp 3 rfl rfl
  have e14_13 := (fr13 14 rfl).trans (by conv => lhs; whnf)
  have e15_13 := fr13.ii 15 rfl rfl
  subst hm
  refine SR <| V (run_lss e16_13 e15_13) <| RL.nil <| CW.seq <| CW.condP rfl (fun h15 => ?_) (fun h15 => ?_)
  ·refine CW.skip <| CW.seq <| CW.block <| SR <| vm e16_13 <| V (run_indexAddrS (hs.vars.sl.hp hH13) underlying53 sizeOf52 e14_13 e16_13 (by omega)) <| V (run_ldE (dv := var0) varL_len (hs.vars.sl.hp hH13) underlying52 rfl rfl rfl (by omega)) <| RL.new rfl hH13 (f := fun b => (.pointer (some ⟨b, 0, none⟩))) (run_alloc Tryd.zeroValue52) <| fun b18 w16 hH17 => aI rfl <| RL.set hH17 (i := 0) rfl (run_stW (c' := (varL _).toArray) rfl rfl rfl (by simp [varL, Value.oneCell']) (hH17.blk (i := 0) rfl) rfl) <| fun w19 hH20 => ?_
   simp only [z2] at hH20
   refine RL.nil <| SR <| V (fA underlying55 0 rfl sizeOf50 e2_13) <| V (run_ldV (hs.lats.sl.hp hH20) underlying50 rfl rfl (hH20.cell (i := 3) rfl rfl)) <| V (fA underlying52 2 rfl sizeOf3 rfl) <| V (run_ld underlying3 rfl rfl (hH20.cell (i := 0) rfl (v := I _) rfl)) <| V (run_indexAddrS (hs.lats.sl.hp hH20) underlying50 sizeOf49 rfl rfl (by have hok := ok_lat (right_at hR h0 ‹k < s.vars.length›); omega)) <| V (fA underlying49 1 rfl sizeOf47 rfl) <| V (run_ldEA (dv := lat0) (off := 1) (cs := shpL _) latL_len (hs.lats.sl.hp hH20) underlying47 rfl rfl rfl (by have hok := ok_lat (right_at hR h0 ‹k < s.vars.length›); omega) (lat_shp _)) <| RL.new rfl hH20 (f := fun b => (.pointer (some ⟨b, 0, none⟩))) (run_alloc Tryd.zeroValue47) <| fun b23 w21 hH22 => RL.set hH22 (i := 0) rfl (run_stShp (hs.at (by have hok := ok_lat (right_at hR h0 ‹k < s.vars.length›); omega) (by have hok := ok_lat (right_at hR h0 ‹k < s.vars.length›); omega)) rfl rfl rfl (hH22.blk (i := 0) rfl) rfl) <| fun w24 hH25 => ?_
   simp only [z2] at hH25
   refine RL.nil <| CW.seq <| SR <| V (fA underlying52 1 rfl sizeOf3 rfl) <| V (run_ld underlying3 rfl rfl (hH25.cell (i := 1) rfl (v := I _) rfl)) <| V (run_eql rfl rfl) <| RL.nil <| CW.condP rfl (fun h27 => ?_) (fun h27 => ?_)
   ·refine CW.seq <| CW.regionS (by kernel_rfl) hH25 (sP (sP (sQ sR))) <| fun w28 hH29 => have zh29 := hH29.sub (sP (sP (sQ sR))); AQ 0 rfl zh29 (run_move e5_13) <| AQ 1 rfl zh29 (fA underlying52 0 rfl sizeOf9 rfl) <| AT 2 rfl zh29 (fun w hS => run_ld underlying9 rfl rfl (hS.cell (i := 1) rfl (v := .string _) rfl)) <| AQ 3 rfl zh29 (run_addS rfl rfl (by have hnk := hvn _ (List.mem_of_getElem? (getD_at (d := var0) h0 ‹k < s.vars.length›)); have hss := spell_sz (s.lats.getD (s.vars.getD k.toNat var0).lat.toNat lat0).shp.sh (a.labels.getD k.toNat el0); have hrs := row_sz (s := (s.lats.getD (s.vars.getD k.toNat var0).lat.toNat lat0).shp.sh) (names_at hR h0 ‹k < s.vars.length›) (by have := hrl _ (List.mem_of_getElem? (getD_at (d := vr0) h0 (by omega))); omega); (try simp only [tx_size_app]); (try simp only [tsz1, tsz2]); omega)) <| AT 4 rfl zh29 (fun w hS => run_ldA (cs := [B _, _]) underlying47 rfl rfl rfl (rangeAt_cells (hS.blk (i := 0) rfl))) <| AQ 5 rfl zh29 (fA underlying32 0 rfl sizeOf30 e3_13) <| AT 6 rfl zh29 (fun w hS => run_ldV (ha.labels.sl.hp hS) underlying30 rfl rfl (hS.cell (i := 2) rfl rfl)) <| AQ 7 rfl zh29 (mV (I _) rfl) <| AT 8 rfl zh29 (fun w hS => run_indexAddrS (ha.labels.sl.hp hS) underlying30 sizeOf25 rfl rfl (by omega)) <| AT 9 rfl zh29 (fun w hS => run_ldElS (ha.labels.sl.hp hS) underlying25 rfl rfl rfl (by omega)) <| A1 10 <| AO.callP rfl gnone rfl hH29 (sP (sP (sQ sR))) (c_spell_Text _ _  _ ((hs.at (by have hok := ok_lat (right_at hR h0 ‹k < s.vars.length›); omega) (by have hok := ok_lat (right_at hR h0 ‹k < s.vars.length›); omega)).mono hH29.kw) (hT.hp hH29)) (run_call2 call18 rfl rfl) <| fun w30 hH31 => AQ 11 rfl (hH31.sub (sP (sP (sQ sR)))) (run_addS rfl rfl (by have hnk := hvn _ (List.mem_of_getElem? (getD_at (d := var0) h0 ‹k < s.vars.length›)); have hss := spell_sz (s.lats.getD (s.vars.getD k.toNat var0).lat.toNat lat0).shp.sh (a.labels.getD k.toNat el0); have hrs := row_sz (s := (s.lats.getD (s.vars.getD k.toNat var0).lat.toNat lat0).shp.sh) (names_at hR h0 ‹k < s.vars.length›) (by have := hrl _ (List.mem_of_getElem? (getD_at (d := vr0) h0 (by omega))); omega); (try simp only [tx_size_app]); (try simp only [tsz1, tsz2]); omega)) <| A1 12 <| AO.new rfl gnone rfl hH31 (sP (sP (sQ sR))) (f := fun b => .slice (some ⟨b, 0, none⟩) 1 1) (run_mkL underlying39 rfl rfl (sz := 1) (vs := [.string _]) rfl rfl (by decide) (by decide) rfl rfl) <| fun b34 w32 hH33 => ?_
    (try simp only [clX] at hH33)
    refine A1 13 <| AO.app rfl gnone rfl hH33 (j := 3) rfl (fun _ => (sQ (sP (sP (sQ sR))))) (hH33.slBlk (i := 0) (n := 1) (sz := 1) rfl rfl (by decide)) rfl rfl underlying39 rfl rfl (size := 1) (bytes := 16) rfl rfl rfl (by decide) (by simp [Value.oneCell']) (by have := vars_len (s := s.sc) (a := a.as) h0; omega) (by have := vars_len (s := s.sc) (a := a.as) h0; simp only [maxLen]; omega) <| fun v37 w35 hH36 => ?_
    simp only [z2] at hH36
    refine AQ 14 rfl (hH36.sub (sQ (sP (sP (sQ sR))))) (run_assign (by conv => lhs; whnf)) ?_
    refine AD <| CW.exit (id := 1) rfl <| CW.region <| V (run_add e16_13 rfl (by omega)) <| mI rfl <| RL.nil <| ?_
    refine ⟨(k + 1, varsT s.sc a.as (k + 1), v37), ?_, fr13.u4.u4.u4.u4.u4.u4.u4.u4.u1.u1, (Hp.conv (hH36.sub (sQ (sQ (sQ sR)))) (by rw [vars_1 h0 ‹(s.vars.getD k.toNat var0).kind = 1›]; simp only [txL, List.map_append, List.map_cons, List.map_nil, List.length_append, List.length_singleton]; rfl)), rfl, (congrArg I (by rfl)), ?_, ?_, ?_⟩
    ·((try dsimp only); omega)
    ·omega
    ·omega
    ·rfl
   ·refine CW.skip <| CW.regionS (by kernel_rfl) hH25 (sP (sP (sQ sR))) <| fun w38 hH39 => have zh39 := hH39.sub (sP (sP (sQ sR))); AQ 0 rfl zh39 (run_move e5_13) <| AQ 1 rfl zh39 (fA underlying52 0 rfl sizeOf9 rfl) <| AT 2 rfl zh39 (fun w hS => run_ld underlying9 rfl rfl (hS.cell (i := 1) rfl (v := .string _) rfl)) <| AQ 3 rfl zh39 (run_addS rfl rfl (by have hnk := hvn _ (List.mem_of_getElem? (getD_at (d := var0) h0 ‹k < s.vars.length›)); have hss := spell_sz (s.lats.getD (s.vars.getD k.toNat var0).lat.toNat lat0).shp.sh (a.labels.getD k.toNat el0); have hrs := row_sz (s := (s.lats.getD (s.vars.getD k.toNat var0).lat.toNat lat0).shp.sh) (names_at hR h0 ‹k < s.vars.length›) (by have := hrl _ (List.mem_of_getElem? (getD_at (d := vr0) h0 (by omega))); omega); (try simp only [tx_size_app]); (try simp only [tsz1, tsz2]); omega)) <| AT 4 rfl zh39 (fun w hS => run_ldA (cs := [B _, _]) underlying47 rfl rfl rfl (rangeAt_cells (hS.blk (i := 0) rfl))) <| AQ 5 rfl zh39 (fA underlying32 1 rfl sizeOf29 e3_13) <| AT 6 rfl zh39 (fun w hS => run_ldV (ha.rows.sl.hp hS) underlying29 rfl rfl (hS.cell (i := 2) rfl rfl)) <| AQ 7 rfl zh39 (mV (I _) rfl) <| AT 8 rfl zh39 (fun w hS => run_indexAddrS (ha.rows.sl.hp hS) underlying29 sizeOf22 rfl rfl (by omega)) <| AT 9 rfl zh39 (fun w hS => run_ld underlying22 rfl rfl ((ha.rows.sl.hp hS).cell _ _ (rowsC_at (by omega)))) <| A1 10 <| AO.callP rfl gnone rfl hH39 (sP (sP (sQ sR))) (c_assign_row _ _ _ (names_at hR h0 ‹k < s.vars.length›) (by have := hrl _ (List.mem_of_getElem? (getD_at (d := vr0) h0 (by omega))); omega) _ ((ha.at (by omega) (by omega)).sl.hp hH39) ((hs.at (by have hok := ok_lat (right_at hR h0 ‹k < s.vars.length›); omega) (by have hok := ok_lat (right_at hR h0 ‹k < s.vars.length›); omega)).mono hH39.kw) (hT.hp hH39)) (run_call2 call19 rfl rfl) <| fun w40 hH41 => AQ 11 rfl (hH41.sub (sP (sP (sQ sR)))) (run_addS rfl rfl (by have hnk := hvn _ (List.mem_of_getElem? (getD_at (d := var0) h0 ‹k < s.vars.length›)); have hss := spell_sz (s.lats.getD (s.vars.getD k.toNat var0).lat.toNat lat0).shp.sh (a.labels.getD k.toNat el0); have hrs := row_sz (s := (s.lats.getD (s.vars.getD k.toNat var0).lat.toNat lat0).shp.sh) (names_at hR h0 ‹k < s.vars.length›) (by have := hrl _ (List.mem_of_getElem? (getD_at (d := vr0) h0 (by omega))); omega); (try simp only [tx_size_app]); (try simp only [tsz1, tsz2]); omega)) <| A1 12 <| AO.new rfl gnone rfl hH41 (sP (sP (sQ sR))) (f := fun b => .slice (some ⟨b, 0, none⟩) 1 1) (run_mkL underlying39 rfl rfl (sz := 1) (vs := [.string _]) rfl rfl (by decide) (by decide) rfl rfl) <| fun b44 w42 hH43 => ?_
    (try simp only [clX] at hH43)
    refine A1 13 <| AO.app rfl gnone rfl hH43 (j := 3) rfl (fun _ => (sQ (sP (sP (sQ sR))))) (hH43.slBlk (i := 0) (n := 1) (sz := 1) rfl rfl (by decide)) rfl rfl underlying39 rfl rfl (size := 1) (bytes := 16) rfl rfl rfl (by decide) (by simp [Value.oneCell']) (by have := vars_len (s := s.sc) (a := a.as) h0; omega) (by have := vars_len (s := s.sc) (a := a.as) h0; simp only [maxLen]; omega) <| fun v47 w45 hH46 => ?_
    simp only [z2] at hH46
    refine AQ 14 rfl (hH46.sub (sQ (sP (sP (sQ sR))))) (run_assign (by conv => lhs; whnf)) ?_
    refine AD <| CW.region <| V (run_add e16_13 rfl (by omega)) <| mI rfl <| RL.nil <| ?_
    refine ⟨(k + 1, varsT s.sc a.as (k + 1), v47), ?_, fr13.u4.u4.u4.u4.u4.u4.u4.u4.u1.u1, (Hp.conv (hH46.sub (sQ (sQ (sQ sR)))) (by rw [vars_2 h0 ‹¬ (s.vars.getD k.toNat var0).kind = 1›]; simp only [txL, List.map_append, List.map_cons, List.map_nil, List.length_append, List.length_singleton]; rfl)), rfl, (congrArg I (by rfl)), ?_, ?_, ?_⟩
    ·((try dsimp only); omega)
    ·omega
    ·omega
    ·rfl
  ·refine CW.exit (id := 0) rfl <| SR <| vm e5_13 <| RL.callP rfl hH13 (c_name_Join _ (varsT s.sc a.as k) (tc 32) (by rw [show k = s.vars.length by omega]; exact Nat.le_trans hvz (by decide)) _ (hH13.sl (i := 0) rfl)) (run_call2 call20 rfl (show _ = Value.string ⟨#[32]⟩ from rfl)) <| fun w48 hH49 => va (v := .string _) rfl <| RL.nil <| CW.ret <| outP1 Tryd.results11 ?_ hH49.below
   exact congrArg S (by rw [text_yes hR, show (s.vars.length : Int) = k by omega])
theorem c_assign_Least (K : Vu) (s : Scp) (hvl : s.vars.length ≤ 1000) (w : World) (hK : Le K (Kw w)) (hs : ScpV K s) (hT : Tab w) : Calls Tryd.prog 14 #[.agg (scpC s)] w (PureF K (fun K' u => ∃ m : Asg, u = .agg (asgL m).toArray ∧ m.as = leastA s.sc ∧ AsgV K' m) w) := by
 have hm1 := hs.lats.small
 have hm2 := hs.vars.small
 unfold maxLen at hm1 hm2
 refine enter Tryd.func14 rfl Tryd.ntmps14 rfl <| have hH := Hp.start w; SR <| RL.new rfl hH (f := fun b => (.pointer (some ⟨b, 0, none⟩))) (run_box (v := .agg _) rfl) <| fun b3 w1 hH2 => RL.new rfl hH2 (f := fun b => (.pointer (some ⟨b, 0, none⟩))) (run_alloc zero_asg) <| fun b6 w4 hH5 => RL.nil <| CW.seq <| CW.regionD (by kernel_rfl) hH5 <| fun w7 hH8 => have zh8 := hH8.sub sR; AQ 0 rfl zh8 (fA underlying55 1 rfl sizeOf53 rfl) <| AT 1 rfl zh8 (fun w hS => run_ldV ((hs.mono hK).vars.sl.hp hS) underlying53 rfl rfl (hS.cell (i := 1) rfl rfl)) <| AT 2 rfl zh8 (fun w hS => run_lenSl ((hs.mono hK).vars.sl.hp hS) rfl underlying53 rfl) <| AQ 4 rfl zh8 (fA underlying55 1 rfl sizeOf53 rfl) <| AT 5 rfl zh8 (fun w hS => run_ldV ((hs.mono hK).vars.sl.hp hS) underlying53 rfl rfl (hS.cell (i := 1) rfl rfl)) <| AT 6 rfl zh8 (fun w hS => run_lenSl ((hs.mono hK).vars.sl.hp hS) rfl underlying53 rfl) <| AN.three 3 7 9 (by kernel_rfl) ?_ ?_ ?_
 ·refine AO.new rfl gnone rfl hH8 sR (f := fun b => .slice (some ⟨b, 0, none⟩) (s.vars.length) (s.vars.length)) (run_mkRow (cl := elL) (sz := 8) (z0 := el0) (n := s.vars.length) (elL_len) (by decide) underlying30 rfl rfl (by kernel_rfl) rfl rfl rfl (by show 64 * _ ≤ _; omega) (by simp only [maxLen]; omega)) <| fun b13 w11 hH12 => have hH14 := hH12.blkRow (s.vars.length) 8 (by rw [flat_length (cl := elL) (elL_len), List.length_replicate]) (by simp only [maxLen]; omega); AN.two 7 9 (by kernel_rfl) ?_ ?_
  ·refine AO.new rfl gnone rfl hH14 (sQ sR) (f := fun b => .slice (some ⟨b, 0, none⟩) (s.vars.length) (s.vars.length)) (run_mkRow (cl := (fun r : VrR => [r.v])) (sz := 1) (z0 := vr0) (n := s.vars.length) (fun _ => rfl) (by decide) underlying29 rfl rfl (by kernel_rfl) rfl rfl rfl (by show 24 * _ ≤ _; omega) (by simp only [maxLen]; omega)) <| fun b19 w17 hH18 => have hH20 := hH18.blkRow (s.vars.length) 1 (by rw [flat_length (cl := (fun r : VrR => [r.v])) (fun _ => rfl), List.length_replicate]) (by simp only [maxLen]; omega); AN.two 8 9 (by kernel_rfl) ?_ ?_
   ·refine AO.read rfl gnone rfl hH20 (sQ (sQ sR)) (run_bld (vs := [(0, (.slice (some ⟨b13, 0, none⟩) (s.vars.length) (s.vars.length))), (1, (.slice (some ⟨b19, 0, none⟩) (s.vars.length) (s.vars.length)))]) rfl (built_asgV (row_cells (hH20.get (i := 1) rfl)).1 (row_cells (hH20.get (i := 0) rfl)).1)) <| A1 9 <| AO.new rfl gnone rfl hH20 (sQ (sQ sR)) (f := fun b => .pointer (some ⟨b, 0, none⟩)) (run_alloc zero_asg) <| fun b25 w23 hH24 => A1 10 <| AO.set rfl gnone hH24 (j := 0) rfl (sQ (sQ (sQ sR))) (run_stW (c' := #[(.slice (some ⟨b13, 0, none⟩) (s.vars.length) (s.vars.length)), (.slice (some ⟨b19, 0, none⟩) (s.vars.length) (s.vars.length))]) rfl rfl rfl (one_pair (row_cells (hH24.get (i := 2) rfl)).2 (row_cells (hH24.get (i := 1) rfl)).2) (hH24.blk (i := 0) rfl) rfl) <| fun w28 hH29 => ?_
    simp only [z2] at hH29
    refine AD <| CW.seq <| SR <| V (fA underlying55 1 rfl sizeOf53 rfl) <| V (run_ldV ((hs.mono hK).vars.sl.hp hH29) underlying53 rfl rfl (hH29.cell (i := 4) rfl rfl)) <| V (run_lenSl ((hs.mono hK).vars.sl.hp hH29) rfl underlying53 rfl) <| vm (v := I 0) rfl <| RL.nil <| CW.block <| CW.loop (G := Int) (fun k s' w' => (Fr (4 :: 5 :: (rg 18 20 [])) _ s') ∧ (Hp w w' (_ :: _ :: .row (.slice (some ⟨b13, 0, none⟩) (s.vars.length) (s.vars.length)) 25 8 s.vars.length ((lsK s k).flatMap elL) :: _)) ∧ (s' 18 = I k) ∧ (0 ≤ k) ∧ (k ≤ s.vars.length)) (fun k => (s.vars.length - k).toNat) (0) ⟨Fr.refl _ _, hH29, rfl, (by omega), (by omega)⟩ <| ?_
    rintro k sg30 w30 ⟨fr30, hH30, e18_30, h0, hk⟩
    have e1_30 := fr30.pp 1 rfl rfl
    have e2_30 := fr30.pp 2 rfl rfl
    have e3_30 := fr30.pp 3 rfl rfl
    have e16_30 := (fr30 16 rfl).trans (by conv => lhs; whnf)
    have e17_30 := fr30.ii 17 rfl rfl
    refine SR <| V (run_lss e18_30 e17_30) <| RL.nil <| CW.seq <| CW.condP rfl (fun h32 => ?_) (fun h32 => ?_)
    ·refine CW.skip <| CW.seq <| CW.block <| SR <| vm e18_30 <| V (run_indexAddrS ((hs.mono hK).vars.sl.hp hH30) underlying53 sizeOf52 e16_30 e18_30 (by omega)) <| V (run_ldE (dv := var0) varL_len ((hs.mono hK).vars.sl.hp hH30) underlying52 rfl rfl rfl (by omega)) <| RL.new rfl hH30 (f := fun b => (.pointer (some ⟨b, 0, none⟩))) (run_alloc Tryd.zeroValue52) <| fun b35 w33 hH34 => aI rfl <| RL.set hH34 (i := 0) rfl (run_stW (c' := (varL _).toArray) rfl rfl rfl (by simp [varL, Value.oneCell']) (hH34.blk (i := 0) rfl) rfl) <| fun w36 hH37 => ?_
     simp only [z2] at hH37
     refine RL.nil <| SR <| V (fA underlying52 1 rfl sizeOf3 rfl) <| V (run_ld underlying3 rfl rfl (hH37.cell (i := 0) rfl (v := I _) rfl)) <| V (run_eql rfl rfl) <| RL.nil <| CW.condP rfl (fun h39 => ?_) (fun h39 => ?_)
     ·refine CW.regionS (by kernel_rfl) hH37 (sP (sP (sP (sQ sR)))) <| fun w40 hH41 => have zh41 := hH41.sub (sP (sP (sP (sQ sR)))); AQ 0 rfl zh41 (fA underlying32 0 rfl sizeOf30 e3_30) <| AT 1 rfl zh41 (fun w hS => run_ld underlying30 rfl rfl (hS.cell (i := 1) rfl rfl)) <| AQ 2 rfl zh41 (mV (I _) rfl) <| AQ 3 rfl zh41 (fA underlying55 0 rfl sizeOf50 e1_30) <| AT 4 rfl zh41 (fun w hS => run_ldV ((hs.mono hK).lats.sl.hp hS) underlying50 rfl rfl (hS.cell (i := 4) rfl rfl)) <| AQ 5 rfl zh41 (fA underlying52 2 rfl sizeOf3 rfl) <| AT 6 rfl zh41 (fun w hS => run_ld underlying3 rfl rfl (hS.cell (i := 0) rfl (v := I _) rfl)) <| A1 7 <| AO.callP rfl gnone rfl hH41 (sP (sP (sP (sQ sR)))) (c_assign_at_api_Lat s _ _ (hs.mono (hK.trans hH41.kw))) (run_call2 call29 rfl rfl) <| fun w42 hH43 => AQ 8 rfl (hH43.sub (sP (sP (sP (sQ sR))))) (run_fieldA underlying49 rfl isAgg47 sizeOf47 rfl (latL_shp _)) <| A1 9 <| AO.callP rfl gnone rfl hH43 (sP (sP (sP (sQ sR)))) (c_shape_Bottom _  _ ((lat_at_v (hs.mono hK) _).mono hH43.kw) (hT.hp hH43)) (run_call1 call28 rfl) <| fun w44 hH45 => A1 10 <| AO.read rfl gnone rfl hH45 (sP (sP (sP (sQ sR)))) (run_indexAddrS (hH45.sl (i := 3) rfl) underlying30 sizeOf25 rfl rfl (by omega)) <| A1 11 <| AO.rowst rfl gnone hH45 (i := 3) rfl (fun _ => (sP (sP (sP (sQ sR))))) (by omega) rfl (new := elL _) ((rfl : _ = Value.agg (elC _)).trans (by rw [elC_def])) (elL_one _) (by rw [elL_len]; rfl) (by rw [elL_len]; omega) <| fun w50 hH51 => ?_
      simp only [z2] at hH51
      refine AD <| CW.region <| V (run_add e18_30 rfl (by omega)) <| mI rfl <| RL.nil <| ?_
      refine ⟨k + 1, ?_, fr30.u4.u4.u4.u4.u4.u1.u1, (Hp.conv (hH51.sub (sQ sR)) (by rw [lsK_put h0 ‹k < _› ‹(s.vars.getD k.toNat var0).kind = 1›]; done)), (congrArg I (by rfl)), ?_, ?_⟩
      ·((try dsimp only); omega)
      ·omega
      ·omega
     ·refine CW.skip <| CW.region <| V (run_add e18_30 rfl (by omega)) <| mI rfl <| RL.nil <| ?_
      refine ⟨k + 1, ?_, fr30.u4.u4.u1.u1.u1, (Hp.conv (hH37.sub (sQ sR)) (by rw [lsK_n h0 ‹k < _› ‹¬ (s.vars.getD k.toNat var0).kind = 1›]; done)), (congrArg I (by rfl)), ?_, ?_⟩
      ·((try dsimp only); omega)
      ·omega
      ·omega
    ·refine CW.exit (id := 0) rfl <| SR <| ?_
     obtain ⟨Z52, hz53, hv54, -⟩ := (hH30.perm (((pC ((pC pR).trans pS)).trans pS).trans (pC pR))).frz (K)
     have hH55 : Hp _ w30 (_ :: _ :: _ :: _ :: Z52) := hz53.zin0 (L := [_, _, _, _])
     obtain ⟨Z56, hz57, hv58, -⟩ := (hH55.perm (((pC pR).trans pS).trans (pC pR))).frz (K)
     have hH59 : Hp _ w30 (_ :: _ :: _ :: (Z56 ++ Z52)) := hz57.zin (L := [_, _, _]) (L' := Z52)
     have hN60 : AsgV (Kz K (Z56 ++ Z52)) (⟨(.slice (some ⟨b13, 0, none⟩) (s.vars.length) (s.vars.length)), s.vars.map (botV s.sc), (.slice (some ⟨b19, 0, none⟩) (s.vars.length) (s.vars.length)), List.replicate s.vars.length vr0⟩ : Asg) := ⟨lsv h0 ‹¬ k < _› (hv54.mono (Le.zz (fun x hx => (List.mem_append_right _ hx)))), rsv (hv58.mono (Le.zz (fun x hx => (List.mem_append_left _ hx)))), RowsV.nils _ _⟩
     refine V (run_ldA (cs := asgL (⟨(.slice (some ⟨b13, 0, none⟩) (s.vars.length) (s.vars.length)), s.vars.map (botV s.sc), (.slice (some ⟨b19, 0, none⟩) (s.vars.length) (s.vars.length)), List.replicate s.vars.length vr0⟩ : Asg)) underlying32 rfl rfl e3_30 (rangeAt_cells (hH59.blk (i := 0) rfl))) <| RL.set hH59 (i := 1) rfl (run_stW (c' := (asgL (⟨(.slice (some ⟨b13, 0, none⟩) (s.vars.length) (s.vars.length)), s.vars.map (botV s.sc), (.slice (some ⟨b19, 0, none⟩) (s.vars.length) (s.vars.length)), List.replicate s.vars.length vr0⟩ : Asg)).toArray) rfl e2_30 rfl (asgL_one hN60) (hH59.blk (i := 1) rfl) rfl) <| fun w61 hH62 => ?_
     simp only [z2] at hH62
     refine RL.nil <| CW.ret <| outCg Tryd.results14 e2_30 hH62 (i := 1) rfl underlying32 rfl rfl ⟨(Z56 ++ Z52), (hH62.sub (sQ (sQ (sQ sR)))), (⟨(.slice (some ⟨b13, 0, none⟩) (s.vars.length) (s.vars.length)), s.vars.map (botV s.sc), (.slice (some ⟨b19, 0, none⟩) (s.vars.length) (s.vars.length)), List.replicate s.vars.length vr0⟩ : Asg), rfl, ?_, hN60⟩
     exact least2_is
   ·refine AO.new rfl gnone rfl hH20 (sQ (sQ sR)) (f := fun b => .pointer (some ⟨b, 0, none⟩)) (run_alloc zero_asg) <| fun b65 w63 hH64 => A1 8 <| AO.read rfl gnone rfl hH64 (sQ (sQ (sQ sR))) (run_bld (vs := [(0, (.slice (some ⟨b13, 0, none⟩) (s.vars.length) (s.vars.length))), (1, (.slice (some ⟨b19, 0, none⟩) (s.vars.length) (s.vars.length)))]) rfl (built_asgV (row_cells (hH64.get (i := 2) rfl)).1 (row_cells (hH64.get (i := 1) rfl)).1)) <| A1 10 <| AO.set rfl gnone hH64 (j := 0) rfl (sQ (sQ (sQ sR))) (run_stW (c' := #[(.slice (some ⟨b13, 0, none⟩) (s.vars.length) (s.vars.length)), (.slice (some ⟨b19, 0, none⟩) (s.vars.length) (s.vars.length))]) rfl rfl rfl (one_pair (row_cells (hH64.get (i := 2) rfl)).2 (row_cells (hH64.get (i := 1) rfl)).2) (hH64.blk (i := 0) rfl) rfl) <| fun w70 hH71 => ?_
    simp only [z2] at hH71
    refine AD <| CW.seq <| SR <| V (fA underlying55 1 rfl sizeOf53 rfl) <| V (run_ldV ((hs.mono hK).vars.sl.hp hH71) underlying53 rfl rfl (hH71.cell (i := 4) rfl rfl)) <| V (run_lenSl ((hs.mono hK).vars.sl.hp hH71) rfl underlying53 rfl) <| vm (v := I 0) rfl <| RL.nil <| CW.block <| CW.loop (G := Int) (fun k s' w' => (Fr (4 :: 5 :: (rg 18 20 [])) _ s') ∧ (Hp w w' (_ :: _ :: .row (.slice (some ⟨b13, 0, none⟩) (s.vars.length) (s.vars.length)) 25 8 s.vars.length ((lsK s k).flatMap elL) :: _)) ∧ (s' 18 = I k) ∧ (0 ≤ k) ∧ (k ≤ s.vars.length)) (fun k => (s.vars.length - k).toNat) (0) ⟨Fr.refl _ _, hH71, rfl, (by omega), (by omega)⟩ <| ?_
    rintro k sg72 w72 ⟨fr72, hH72, e18_72, h0, hk⟩
    have e1_72 := fr72.pp 1 rfl rfl
    have e2_72 := fr72.pp 2 rfl rfl
    have e3_72 := fr72.pp 3 rfl rfl
    have e16_72 := (fr72 16 rfl).trans (by conv => lhs; whnf)
    have e17_72 := fr72.ii 17 rfl rfl
    refine SR <| V (run_lss e18_72 e17_72) <| RL.nil <| CW.seq <| CW.condP rfl (fun h74 => ?_) (fun h74 => ?_)
    ·refine CW.skip <| CW.seq <| CW.block <| SR <| vm e18_72 <| V (run_indexAddrS ((hs.mono hK).vars.sl.hp hH72) underlying53 sizeOf52 e16_72 e18_72 (by omega)) <| V (run_ldE (dv := var0) varL_len ((hs.mono hK).vars.sl.hp hH72) underlying52 rfl rfl rfl (by omega)) <| RL.new rfl hH72 (f := fun b => (.pointer (some ⟨b, 0, none⟩))) (run_alloc Tryd.zeroValue52) <| fun b77 w75 hH76 => aI rfl <| RL.set hH76 (i := 0) rfl (run_stW (c' := (varL _).toArray) rfl rfl rfl (by simp [varL, Value.oneCell']) (hH76.blk (i := 0) rfl) rfl) <| fun w78 hH79 => ?_
     simp only [z2] at hH79
     refine RL.nil <| SR <| V (fA underlying52 1 rfl sizeOf3 rfl) <| V (run_ld underlying3 rfl rfl (hH79.cell (i := 0) rfl (v := I _) rfl)) <| V (run_eql rfl rfl) <| RL.nil <| CW.condP rfl (fun h81 => ?_) (fun h81 => ?_)
     ·refine CW.regionS (by kernel_rfl) hH79 (sP (sP (sP (sQ sR)))) <| fun w82 hH83 => have zh83 := hH83.sub (sP (sP (sP (sQ sR)))); AQ 0 rfl zh83 (fA underlying32 0 rfl sizeOf30 e3_72) <| AT 1 rfl zh83 (fun w hS => run_ld underlying30 rfl rfl (hS.cell (i := 1) rfl rfl)) <| AQ 2 rfl zh83 (mV (I _) rfl) <| AQ 3 rfl zh83 (fA underlying55 0 rfl sizeOf50 e1_72) <| AT 4 rfl zh83 (fun w hS => run_ldV ((hs.mono hK).lats.sl.hp hS) underlying50 rfl rfl (hS.cell (i := 4) rfl rfl)) <| AQ 5 rfl zh83 (fA underlying52 2 rfl sizeOf3 rfl) <| AT 6 rfl zh83 (fun w hS => run_ld underlying3 rfl rfl (hS.cell (i := 0) rfl (v := I _) rfl)) <| A1 7 <| AO.callP rfl gnone rfl hH83 (sP (sP (sP (sQ sR)))) (c_assign_at_api_Lat s _ _ (hs.mono (hK.trans hH83.kw))) (run_call2 call29 rfl rfl) <| fun w84 hH85 => AQ 8 rfl (hH85.sub (sP (sP (sP (sQ sR))))) (run_fieldA underlying49 rfl isAgg47 sizeOf47 rfl (latL_shp _)) <| A1 9 <| AO.callP rfl gnone rfl hH85 (sP (sP (sP (sQ sR)))) (c_shape_Bottom _  _ ((lat_at_v (hs.mono hK) _).mono hH85.kw) (hT.hp hH85)) (run_call1 call28 rfl) <| fun w86 hH87 => A1 10 <| AO.read rfl gnone rfl hH87 (sP (sP (sP (sQ sR)))) (run_indexAddrS (hH87.sl (i := 3) rfl) underlying30 sizeOf25 rfl rfl (by omega)) <| A1 11 <| AO.rowst rfl gnone hH87 (i := 3) rfl (fun _ => (sP (sP (sP (sQ sR))))) (by omega) rfl (new := elL _) ((rfl : _ = Value.agg (elC _)).trans (by rw [elC_def])) (elL_one _) (by rw [elL_len]; rfl) (by rw [elL_len]; omega) <| fun w92 hH93 => ?_
      simp only [z2] at hH93
      refine AD <| CW.region <| V (run_add e18_72 rfl (by omega)) <| mI rfl <| RL.nil <| ?_
      refine ⟨k + 1, ?_, fr72.u4.u4.u4.u4.u4.u1.u1, (Hp.conv (hH93.sub (sQ sR)) (by rw [lsK_put h0 ‹k < _› ‹(s.vars.getD k.toNat var0).kind = 1›]; done)), (congrArg I (by rfl)), ?_, ?_⟩
      ·((try dsimp only); omega)
      ·omega
      ·omega
     ·refine CW.skip <| CW.region <| V (run_add e18_72 rfl (by omega)) <| mI rfl <| RL.nil <| ?_
      refine ⟨k + 1, ?_, fr72.u4.u4.u1.u1.u1, (Hp.conv (hH79.sub (sQ sR)) (by rw [lsK_n h0 ‹k < _› ‹¬ (s.vars.getD k.toNat var0).kind = 1›]; done)), (congrArg I (by rfl)), ?_, ?_⟩
      ·((try dsimp only); omega)
      ·omega
      ·omega
    ·refine CW.exit (id := 0) rfl <| SR <| ?_
     obtain ⟨Z94, hz95, hv96, -⟩ := (hH72.perm (((pC ((pC pR).trans pS)).trans pS).trans (pC pR))).frz (K)
     have hH97 : Hp _ w72 (_ :: _ :: _ :: _ :: Z94) := hz95.zin0 (L := [_, _, _, _])
     obtain ⟨Z98, hz99, hv100, -⟩ := (hH97.perm (((pC pR).trans pS).trans (pC pR))).frz (K)
     have hH101 : Hp _ w72 (_ :: _ :: _ :: (Z98 ++ Z94)) := hz99.zin (L := [_, _, _]) (L' := Z94)
     have hN102 : AsgV (Kz K (Z98 ++ Z94)) (⟨(.slice (some ⟨b13, 0, none⟩) (s.vars.length) (s.vars.length)), s.vars.map (botV s.sc), (.slice (some ⟨b19, 0, none⟩) (s.vars.length) (s.vars.length)), List.replicate s.vars.length vr0⟩ : Asg) := ⟨lsv h0 ‹¬ k < _› (hv96.mono (Le.zz (fun x hx => (List.mem_append_right _ hx)))), rsv (hv100.mono (Le.zz (fun x hx => (List.mem_append_left _ hx)))), RowsV.nils _ _⟩
     refine V (run_ldA (cs := asgL (⟨(.slice (some ⟨b13, 0, none⟩) (s.vars.length) (s.vars.length)), s.vars.map (botV s.sc), (.slice (some ⟨b19, 0, none⟩) (s.vars.length) (s.vars.length)), List.replicate s.vars.length vr0⟩ : Asg)) underlying32 rfl rfl e3_72 (rangeAt_cells (hH101.blk (i := 0) rfl))) <| RL.set hH101 (i := 1) rfl (run_stW (c' := (asgL (⟨(.slice (some ⟨b13, 0, none⟩) (s.vars.length) (s.vars.length)), s.vars.map (botV s.sc), (.slice (some ⟨b19, 0, none⟩) (s.vars.length) (s.vars.length)), List.replicate s.vars.length vr0⟩ : Asg)).toArray) rfl e2_72 rfl (asgL_one hN102) (hH101.blk (i := 1) rfl) rfl) <| fun w103 hH104 => ?_
     simp only [z2] at hH104
     refine RL.nil <| CW.ret <| outCg Tryd.results14 e2_72 hH104 (i := 1) rfl underlying32 rfl rfl ⟨(Z98 ++ Z94), (hH104.sub (sQ (sQ (sQ sR)))), (⟨(.slice (some ⟨b13, 0, none⟩) (s.vars.length) (s.vars.length)), s.vars.map (botV s.sc), (.slice (some ⟨b19, 0, none⟩) (s.vars.length) (s.vars.length)), List.replicate s.vars.length vr0⟩ : Asg), rfl, ?_, hN102⟩
     exact least2_is
  ·refine AO.new rfl gnone rfl hH14 (sQ sR) (f := fun b => .pointer (some ⟨b, 0, none⟩)) (run_alloc zero_asg) <| fun b107 w105 hH106 => A1 7 <| AO.new rfl gnone rfl hH106 (sQ (sQ sR)) (f := fun b => .slice (some ⟨b, 0, none⟩) (s.vars.length) (s.vars.length)) (run_mkRow (cl := (fun r : VrR => [r.v])) (sz := 1) (z0 := vr0) (n := s.vars.length) (fun _ => rfl) (by decide) underlying29 rfl rfl (by kernel_rfl) rfl rfl rfl (by show 24 * _ ≤ _; omega) (by simp only [maxLen]; omega)) <| fun b112 w110 hH111 => have hH113 := hH111.blkRow (s.vars.length) 1 (by rw [flat_length (cl := (fun r : VrR => [r.v])) (fun _ => rfl), List.length_replicate]) (by simp only [maxLen]; omega); A1 8 <| AO.read rfl gnone rfl hH113 (sQ (sQ (sQ sR))) (run_bld (vs := [(0, (.slice (some ⟨b13, 0, none⟩) (s.vars.length) (s.vars.length))), (1, (.slice (some ⟨b112, 0, none⟩) (s.vars.length) (s.vars.length)))]) rfl (built_asgV (row_cells (hH113.get (i := 2) rfl)).1 (row_cells (hH113.get (i := 0) rfl)).1)) <| A1 10 <| AO.set rfl gnone hH113 (j := 1) rfl (sQ (sQ (sQ sR))) (run_stW (c' := #[(.slice (some ⟨b13, 0, none⟩) (s.vars.length) (s.vars.length)), (.slice (some ⟨b112, 0, none⟩) (s.vars.length) (s.vars.length))]) rfl rfl rfl (one_pair (row_cells (hH113.get (i := 2) rfl)).2 (row_cells (hH113.get (i := 0) rfl)).2) (hH113.blk (i := 1) rfl) rfl) <| fun w118 hH119 => ?_
   simp only [z2] at hH119
   refine AD <| CW.seq <| SR <| V (fA underlying55 1 rfl sizeOf53 rfl) <| V (run_ldV ((hs.mono hK).vars.sl.hp hH119) underlying53 rfl rfl (hH119.cell (i := 4) rfl rfl)) <| V (run_lenSl ((hs.mono hK).vars.sl.hp hH119) rfl underlying53 rfl) <| vm (v := I 0) rfl <| RL.nil <| CW.block <| CW.loop (G := Int) (fun k s' w' => (Fr (4 :: 5 :: (rg 18 20 [])) _ s') ∧ (Hp w w' (_ :: _ :: .row (.slice (some ⟨b13, 0, none⟩) (s.vars.length) (s.vars.length)) 25 8 s.vars.length ((lsK s k).flatMap elL) :: _)) ∧ (s' 18 = I k) ∧ (0 ≤ k) ∧ (k ≤ s.vars.length)) (fun k => (s.vars.length - k).toNat) (0) ⟨Fr.refl _ _, hH119, rfl, (by omega), (by omega)⟩ <| ?_
   rintro k sg120 w120 ⟨fr120, hH120, e18_120, h0, hk⟩
   have e1_120 := fr120.pp 1 rfl rfl
   have e2_120 := fr120.pp 2 rfl rfl
   have e3_120 := fr120.pp 3 rfl rfl
   have e16_120 := (fr120 16 rfl).trans (by conv => lhs; whnf)
   have e17_120 := fr120.ii 17 rfl rfl
   refine SR <| V (run_lss e18_120 e17_120) <| RL.nil <| CW.seq <| CW.condP rfl (fun h122 => ?_) (fun h122 => ?_)
   ·refine CW.skip <| CW.seq <| CW.block <| SR <| vm e18_120 <| V (run_indexAddrS ((hs.mono hK).vars.sl.hp hH120) underlying53 sizeOf52 e16_120 e18_120 (by omega)) <| V (run_ldE (dv := var0) varL_len ((hs.mono hK).vars.sl.hp hH120) underlying52 rfl rfl rfl (by omega)) <| RL.new rfl hH120 (f := fun b => (.pointer (some ⟨b, 0, none⟩))) (run_alloc Tryd.zeroValue52) <| fun b125 w123 hH124 => aI rfl <| RL.set hH124 (i := 0) rfl (run_stW (c' := (varL _).toArray) rfl rfl rfl (by simp [varL, Value.oneCell']) (hH124.blk (i := 0) rfl) rfl) <| fun w126 hH127 => ?_
    simp only [z2] at hH127
    refine RL.nil <| SR <| V (fA underlying52 1 rfl sizeOf3 rfl) <| V (run_ld underlying3 rfl rfl (hH127.cell (i := 0) rfl (v := I _) rfl)) <| V (run_eql rfl rfl) <| RL.nil <| CW.condP rfl (fun h129 => ?_) (fun h129 => ?_)
    ·refine CW.regionS (by kernel_rfl) hH127 (sP (sP (sP (sQ sR)))) <| fun w130 hH131 => have zh131 := hH131.sub (sP (sP (sP (sQ sR)))); AQ 0 rfl zh131 (fA underlying32 0 rfl sizeOf30 e3_120) <| AT 1 rfl zh131 (fun w hS => run_ld underlying30 rfl rfl (hS.cell (i := 2) rfl rfl)) <| AQ 2 rfl zh131 (mV (I _) rfl) <| AQ 3 rfl zh131 (fA underlying55 0 rfl sizeOf50 e1_120) <| AT 4 rfl zh131 (fun w hS => run_ldV ((hs.mono hK).lats.sl.hp hS) underlying50 rfl rfl (hS.cell (i := 4) rfl rfl)) <| AQ 5 rfl zh131 (fA underlying52 2 rfl sizeOf3 rfl) <| AT 6 rfl zh131 (fun w hS => run_ld underlying3 rfl rfl (hS.cell (i := 0) rfl (v := I _) rfl)) <| A1 7 <| AO.callP rfl gnone rfl hH131 (sP (sP (sP (sQ sR)))) (c_assign_at_api_Lat s _ _ (hs.mono (hK.trans hH131.kw))) (run_call2 call29 rfl rfl) <| fun w132 hH133 => AQ 8 rfl (hH133.sub (sP (sP (sP (sQ sR))))) (run_fieldA underlying49 rfl isAgg47 sizeOf47 rfl (latL_shp _)) <| A1 9 <| AO.callP rfl gnone rfl hH133 (sP (sP (sP (sQ sR)))) (c_shape_Bottom _  _ ((lat_at_v (hs.mono hK) _).mono hH133.kw) (hT.hp hH133)) (run_call1 call28 rfl) <| fun w134 hH135 => A1 10 <| AO.read rfl gnone rfl hH135 (sP (sP (sP (sQ sR)))) (run_indexAddrS (hH135.sl (i := 3) rfl) underlying30 sizeOf25 rfl rfl (by omega)) <| A1 11 <| AO.rowst rfl gnone hH135 (i := 3) rfl (fun _ => (sP (sP (sP (sQ sR))))) (by omega) rfl (new := elL _) ((rfl : _ = Value.agg (elC _)).trans (by rw [elC_def])) (elL_one _) (by rw [elL_len]; rfl) (by rw [elL_len]; omega) <| fun w140 hH141 => ?_
     simp only [z2] at hH141
     refine AD <| CW.region <| V (run_add e18_120 rfl (by omega)) <| mI rfl <| RL.nil <| ?_
     refine ⟨k + 1, ?_, fr120.u4.u4.u4.u4.u4.u1.u1, (Hp.conv (hH141.sub (sQ sR)) (by rw [lsK_put h0 ‹k < _› ‹(s.vars.getD k.toNat var0).kind = 1›]; done)), (congrArg I (by rfl)), ?_, ?_⟩
     ·((try dsimp only); omega)
     ·omega
     ·omega
    ·refine CW.skip <| CW.region <| V (run_add e18_120 rfl (by omega)) <| mI rfl <| RL.nil <| ?_
     refine ⟨k + 1, ?_, fr120.u4.u4.u1.u1.u1, (Hp.conv (hH127.sub (sQ sR)) (by rw [lsK_n h0 ‹k < _› ‹¬ (s.vars.getD k.toNat var0).kind = 1›]; done)), (congrArg I (by rfl)), ?_, ?_⟩
     ·((try dsimp only); omega)
     ·omega
     ·omega
   ·refine CW.exit (id := 0) rfl <| SR <| ?_
    obtain ⟨Z142, hz143, hv144, -⟩ := (hH120.perm (((pC ((pC pR).trans pS)).trans pS).trans (pC pR))).frz (K)
    have hH145 : Hp _ w120 (_ :: _ :: _ :: _ :: Z142) := hz143.zin0 (L := [_, _, _, _])
    obtain ⟨Z146, hz147, hv148, -⟩ := hH145.frz (K)
    have hH149 : Hp _ w120 (_ :: _ :: _ :: (Z146 ++ Z142)) := hz147.zin (L := [_, _, _]) (L' := Z142)
    have hN150 : AsgV (Kz K (Z146 ++ Z142)) (⟨(.slice (some ⟨b13, 0, none⟩) (s.vars.length) (s.vars.length)), s.vars.map (botV s.sc), (.slice (some ⟨b112, 0, none⟩) (s.vars.length) (s.vars.length)), List.replicate s.vars.length vr0⟩ : Asg) := ⟨lsv h0 ‹¬ k < _› (hv144.mono (Le.zz (fun x hx => (List.mem_append_right _ hx)))), rsv (hv148.mono (Le.zz (fun x hx => (List.mem_append_left _ hx)))), RowsV.nils _ _⟩
    refine V (run_ldA (cs := asgL (⟨(.slice (some ⟨b13, 0, none⟩) (s.vars.length) (s.vars.length)), s.vars.map (botV s.sc), (.slice (some ⟨b112, 0, none⟩) (s.vars.length) (s.vars.length)), List.replicate s.vars.length vr0⟩ : Asg)) underlying32 rfl rfl e3_120 (rangeAt_cells (hH149.blk (i := 0) rfl))) <| RL.set hH149 (i := 1) rfl (run_stW (c' := (asgL (⟨(.slice (some ⟨b13, 0, none⟩) (s.vars.length) (s.vars.length)), s.vars.map (botV s.sc), (.slice (some ⟨b112, 0, none⟩) (s.vars.length) (s.vars.length)), List.replicate s.vars.length vr0⟩ : Asg)).toArray) rfl e2_120 rfl (asgL_one hN150) (hH149.blk (i := 1) rfl) rfl) <| fun w151 hH152 => ?_
    simp only [z2] at hH152
    refine RL.nil <| CW.ret <| outCg Tryd.results14 e2_120 hH152 (i := 1) rfl underlying32 rfl rfl ⟨(Z146 ++ Z142), (hH152.sub (sQ (sQ (sQ sR)))), (⟨(.slice (some ⟨b13, 0, none⟩) (s.vars.length) (s.vars.length)), s.vars.map (botV s.sc), (.slice (some ⟨b112, 0, none⟩) (s.vars.length) (s.vars.length)), List.replicate s.vars.length vr0⟩ : Asg), rfl, ?_, hN150⟩
    exact least2_is
 ·refine AO.new rfl gnone rfl hH8 sR (f := fun b => .slice (some ⟨b, 0, none⟩) (s.vars.length) (s.vars.length)) (run_mkRow (cl := (fun r : VrR => [r.v])) (sz := 1) (z0 := vr0) (n := s.vars.length) (fun _ => rfl) (by decide) underlying29 rfl rfl (by kernel_rfl) rfl rfl rfl (by show 24 * _ ≤ _; omega) (by simp only [maxLen]; omega)) <| fun b157 w155 hH156 => have hH158 := hH156.blkRow (s.vars.length) 1 (by rw [flat_length (cl := (fun r : VrR => [r.v])) (fun _ => rfl), List.length_replicate]) (by simp only [maxLen]; omega); AN.two 3 9 (by kernel_rfl) ?_ ?_
  ·refine AO.new rfl gnone rfl hH158 (sQ sR) (f := fun b => .slice (some ⟨b, 0, none⟩) (s.vars.length) (s.vars.length)) (run_mkRow (cl := elL) (sz := 8) (z0 := el0) (n := s.vars.length) (elL_len) (by decide) underlying30 rfl rfl (by kernel_rfl) rfl rfl rfl (by show 64 * _ ≤ _; omega) (by simp only [maxLen]; omega)) <| fun b163 w161 hH162 => have hH164 := hH162.blkRow (s.vars.length) 8 (by rw [flat_length (cl := elL) (elL_len), List.length_replicate]) (by simp only [maxLen]; omega); AN.two 8 9 (by kernel_rfl) ?_ ?_
   ·refine AO.read rfl gnone rfl hH164 (sQ (sQ sR)) (run_bld (vs := [(0, (.slice (some ⟨b163, 0, none⟩) (s.vars.length) (s.vars.length))), (1, (.slice (some ⟨b157, 0, none⟩) (s.vars.length) (s.vars.length)))]) rfl (built_asgV (row_cells (hH164.get (i := 0) rfl)).1 (row_cells (hH164.get (i := 1) rfl)).1)) <| A1 9 <| AO.new rfl gnone rfl hH164 (sQ (sQ sR)) (f := fun b => .pointer (some ⟨b, 0, none⟩)) (run_alloc zero_asg) <| fun b169 w167 hH168 => A1 10 <| AO.set rfl gnone hH168 (j := 0) rfl (sQ (sQ (sQ sR))) (run_stW (c' := #[(.slice (some ⟨b163, 0, none⟩) (s.vars.length) (s.vars.length)), (.slice (some ⟨b157, 0, none⟩) (s.vars.length) (s.vars.length))]) rfl rfl rfl (one_pair (row_cells (hH168.get (i := 1) rfl)).2 (row_cells (hH168.get (i := 2) rfl)).2) (hH168.blk (i := 0) rfl) rfl) <| fun w172 hH173 => ?_
    simp only [z2] at hH173
    refine AD <| CW.seq <| SR <| V (fA underlying55 1 rfl sizeOf53 rfl) <| V (run_ldV ((hs.mono hK).vars.sl.hp hH173) underlying53 rfl rfl (hH173.cell (i := 4) rfl rfl)) <| V (run_lenSl ((hs.mono hK).vars.sl.hp hH173) rfl underlying53 rfl) <| vm (v := I 0) rfl <| RL.nil <| CW.block <| CW.loop (G := Int) (fun k s' w' => (Fr (4 :: 5 :: (rg 18 20 [])) _ s') ∧ (Hp w w' (_ :: .row (.slice (some ⟨b163, 0, none⟩) (s.vars.length) (s.vars.length)) 25 8 s.vars.length ((lsK s k).flatMap elL) :: _)) ∧ (s' 18 = I k) ∧ (0 ≤ k) ∧ (k ≤ s.vars.length)) (fun k => (s.vars.length - k).toNat) (0) ⟨Fr.refl _ _, hH173, rfl, (by omega), (by omega)⟩ <| ?_
    rintro k sg174 w174 ⟨fr174, hH174, e18_174, h0, hk⟩
    have e1_174 := fr174.pp 1 rfl rfl
    have e2_174 := fr174.pp 2 rfl rfl
    have e3_174 := fr174.pp 3 rfl rfl
    have e16_174 := (fr174 16 rfl).trans (by conv => lhs; whnf)
    have e17_174 := fr174.ii 17 rfl rfl
    refine SR <| V (run_lss e18_174 e17_174) <| RL.nil <| CW.seq <| CW.condP rfl (fun h176 => ?_) (fun h176 => ?_)
    ·refine CW.skip <| CW.seq <| CW.block <| SR <| vm e18_174 <| V (run_indexAddrS ((hs.mono hK).vars.sl.hp hH174) underlying53 sizeOf52 e16_174 e18_174 (by omega)) <| V (run_ldE (dv := var0) varL_len ((hs.mono hK).vars.sl.hp hH174) underlying52 rfl rfl rfl (by omega)) <| RL.new rfl hH174 (f := fun b => (.pointer (some ⟨b, 0, none⟩))) (run_alloc Tryd.zeroValue52) <| fun b179 w177 hH178 => aI rfl <| RL.set hH178 (i := 0) rfl (run_stW (c' := (varL _).toArray) rfl rfl rfl (by simp [varL, Value.oneCell']) (hH178.blk (i := 0) rfl) rfl) <| fun w180 hH181 => ?_
     simp only [z2] at hH181
     refine RL.nil <| SR <| V (fA underlying52 1 rfl sizeOf3 rfl) <| V (run_ld underlying3 rfl rfl (hH181.cell (i := 0) rfl (v := I _) rfl)) <| V (run_eql rfl rfl) <| RL.nil <| CW.condP rfl (fun h183 => ?_) (fun h183 => ?_)
     ·refine CW.regionS (by kernel_rfl) hH181 (sP (sP (sQ sR))) <| fun w184 hH185 => have zh185 := hH185.sub (sP (sP (sQ sR))); AQ 0 rfl zh185 (fA underlying32 0 rfl sizeOf30 e3_174) <| AT 1 rfl zh185 (fun w hS => run_ld underlying30 rfl rfl (hS.cell (i := 1) rfl rfl)) <| AQ 2 rfl zh185 (mV (I _) rfl) <| AQ 3 rfl zh185 (fA underlying55 0 rfl sizeOf50 e1_174) <| AT 4 rfl zh185 (fun w hS => run_ldV ((hs.mono hK).lats.sl.hp hS) underlying50 rfl rfl (hS.cell (i := 4) rfl rfl)) <| AQ 5 rfl zh185 (fA underlying52 2 rfl sizeOf3 rfl) <| AT 6 rfl zh185 (fun w hS => run_ld underlying3 rfl rfl (hS.cell (i := 0) rfl (v := I _) rfl)) <| A1 7 <| AO.callP rfl gnone rfl hH185 (sP (sP (sQ sR))) (c_assign_at_api_Lat s _ _ (hs.mono (hK.trans hH185.kw))) (run_call2 call29 rfl rfl) <| fun w186 hH187 => AQ 8 rfl (hH187.sub (sP (sP (sQ sR)))) (run_fieldA underlying49 rfl isAgg47 sizeOf47 rfl (latL_shp _)) <| A1 9 <| AO.callP rfl gnone rfl hH187 (sP (sP (sQ sR))) (c_shape_Bottom _  _ ((lat_at_v (hs.mono hK) _).mono hH187.kw) (hT.hp hH187)) (run_call1 call28 rfl) <| fun w188 hH189 => A1 10 <| AO.read rfl gnone rfl hH189 (sP (sP (sQ sR))) (run_indexAddrS (hH189.sl (i := 2) rfl) underlying30 sizeOf25 rfl rfl (by omega)) <| A1 11 <| AO.rowst rfl gnone hH189 (i := 2) rfl (fun _ => (sP (sP (sQ sR)))) (by omega) rfl (new := elL _) ((rfl : _ = Value.agg (elC _)).trans (by rw [elC_def])) (elL_one _) (by rw [elL_len]; rfl) (by rw [elL_len]; omega) <| fun w194 hH195 => ?_
      simp only [z2] at hH195
      refine AD <| CW.region <| V (run_add e18_174 rfl (by omega)) <| mI rfl <| RL.nil <| ?_
      refine ⟨k + 1, ?_, fr174.u4.u4.u4.u4.u4.u1.u1, (Hp.conv (hH195.sub (sQ sR)) (by rw [lsK_put h0 ‹k < _› ‹(s.vars.getD k.toNat var0).kind = 1›]; done)), (congrArg I (by rfl)), ?_, ?_⟩
      ·((try dsimp only); omega)
      ·omega
      ·omega
     ·refine CW.skip <| CW.region <| V (run_add e18_174 rfl (by omega)) <| mI rfl <| RL.nil <| ?_
      refine ⟨k + 1, ?_, fr174.u4.u4.u1.u1.u1, (Hp.conv (hH181.sub (sQ sR)) (by rw [lsK_n h0 ‹k < _› ‹¬ (s.vars.getD k.toNat var0).kind = 1›]; done)), (congrArg I (by rfl)), ?_, ?_⟩
      ·((try dsimp only); omega)
      ·omega
      ·omega
    ·refine CW.exit (id := 0) rfl <| SR <| ?_
     obtain ⟨Z196, hz197, hv198, -⟩ := (hH174.perm (((pC pR).trans pS).trans (pC pR))).frz (K)
     have hH199 : Hp _ w174 (_ :: _ :: _ :: _ :: Z196) := hz197.zin0 (L := [_, _, _, _])
     obtain ⟨Z200, hz201, hv202, -⟩ := (hH199.perm (((pC pR).trans pS).trans (pC pR))).frz (K)
     have hH203 : Hp _ w174 (_ :: _ :: _ :: (Z200 ++ Z196)) := hz201.zin (L := [_, _, _]) (L' := Z196)
     have hN204 : AsgV (Kz K (Z200 ++ Z196)) (⟨(.slice (some ⟨b163, 0, none⟩) (s.vars.length) (s.vars.length)), s.vars.map (botV s.sc), (.slice (some ⟨b157, 0, none⟩) (s.vars.length) (s.vars.length)), List.replicate s.vars.length vr0⟩ : Asg) := ⟨lsv h0 ‹¬ k < _› (hv198.mono (Le.zz (fun x hx => (List.mem_append_right _ hx)))), rsv (hv202.mono (Le.zz (fun x hx => (List.mem_append_left _ hx)))), RowsV.nils _ _⟩
     refine V (run_ldA (cs := asgL (⟨(.slice (some ⟨b163, 0, none⟩) (s.vars.length) (s.vars.length)), s.vars.map (botV s.sc), (.slice (some ⟨b157, 0, none⟩) (s.vars.length) (s.vars.length)), List.replicate s.vars.length vr0⟩ : Asg)) underlying32 rfl rfl e3_174 (rangeAt_cells (hH203.blk (i := 0) rfl))) <| RL.set hH203 (i := 1) rfl (run_stW (c' := (asgL (⟨(.slice (some ⟨b163, 0, none⟩) (s.vars.length) (s.vars.length)), s.vars.map (botV s.sc), (.slice (some ⟨b157, 0, none⟩) (s.vars.length) (s.vars.length)), List.replicate s.vars.length vr0⟩ : Asg)).toArray) rfl e2_174 rfl (asgL_one hN204) (hH203.blk (i := 1) rfl) rfl) <| fun w205 hH206 => ?_
     simp only [z2] at hH206
     refine RL.nil <| CW.ret <| outCg Tryd.results14 e2_174 hH206 (i := 1) rfl underlying32 rfl rfl ⟨(Z200 ++ Z196), (hH206.sub (sQ (sQ (sQ sR)))), (⟨(.slice (some ⟨b163, 0, none⟩) (s.vars.length) (s.vars.length)), s.vars.map (botV s.sc), (.slice (some ⟨b157, 0, none⟩) (s.vars.length) (s.vars.length)), List.replicate s.vars.length vr0⟩ : Asg), rfl, ?_, hN204⟩
     exact least2_is
   ·refine AO.new rfl gnone rfl hH164 (sQ (sQ sR)) (f := fun b => .pointer (some ⟨b, 0, none⟩)) (run_alloc zero_asg) <| fun b209 w207 hH208 => A1 8 <| AO.read rfl gnone rfl hH208 (sQ (sQ (sQ sR))) (run_bld (vs := [(0, (.slice (some ⟨b163, 0, none⟩) (s.vars.length) (s.vars.length))), (1, (.slice (some ⟨b157, 0, none⟩) (s.vars.length) (s.vars.length)))]) rfl (built_asgV (row_cells (hH208.get (i := 1) rfl)).1 (row_cells (hH208.get (i := 2) rfl)).1)) <| A1 10 <| AO.set rfl gnone hH208 (j := 0) rfl (sQ (sQ (sQ sR))) (run_stW (c' := #[(.slice (some ⟨b163, 0, none⟩) (s.vars.length) (s.vars.length)), (.slice (some ⟨b157, 0, none⟩) (s.vars.length) (s.vars.length))]) rfl rfl rfl (one_pair (row_cells (hH208.get (i := 1) rfl)).2 (row_cells (hH208.get (i := 2) rfl)).2) (hH208.blk (i := 0) rfl) rfl) <| fun w214 hH215 => ?_
    simp only [z2] at hH215
    refine AD <| CW.seq <| SR <| V (fA underlying55 1 rfl sizeOf53 rfl) <| V (run_ldV ((hs.mono hK).vars.sl.hp hH215) underlying53 rfl rfl (hH215.cell (i := 4) rfl rfl)) <| V (run_lenSl ((hs.mono hK).vars.sl.hp hH215) rfl underlying53 rfl) <| vm (v := I 0) rfl <| RL.nil <| CW.block <| CW.loop (G := Int) (fun k s' w' => (Fr (4 :: 5 :: (rg 18 20 [])) _ s') ∧ (Hp w w' (_ :: .row (.slice (some ⟨b163, 0, none⟩) (s.vars.length) (s.vars.length)) 25 8 s.vars.length ((lsK s k).flatMap elL) :: _)) ∧ (s' 18 = I k) ∧ (0 ≤ k) ∧ (k ≤ s.vars.length)) (fun k => (s.vars.length - k).toNat) (0) ⟨Fr.refl _ _, hH215, rfl, (by omega), (by omega)⟩ <| ?_
    rintro k sg216 w216 ⟨fr216, hH216, e18_216, h0, hk⟩
    have e1_216 := fr216.pp 1 rfl rfl
    have e2_216 := fr216.pp 2 rfl rfl
    have e3_216 := fr216.pp 3 rfl rfl
    have e16_216 := (fr216 16 rfl).trans (by conv => lhs; whnf)
    have e17_216 := fr216.ii 17 rfl rfl
    refine SR <| V (run_lss e18_216 e17_216) <| RL.nil <| CW.seq <| CW.condP rfl (fun h218 => ?_) (fun h218 => ?_)
    ·refine CW.skip <| CW.seq <| CW.block <| SR <| vm e18_216 <| V (run_indexAddrS ((hs.mono hK).vars.sl.hp hH216) underlying53 sizeOf52 e16_216 e18_216 (by omega)) <| V (run_ldE (dv := var0) varL_len ((hs.mono hK).vars.sl.hp hH216) underlying52 rfl rfl rfl (by omega)) <| RL.new rfl hH216 (f := fun b => (.pointer (some ⟨b, 0, none⟩))) (run_alloc Tryd.zeroValue52) <| fun b221 w219 hH220 => aI rfl <| RL.set hH220 (i := 0) rfl (run_stW (c' := (varL _).toArray) rfl rfl rfl (by simp [varL, Value.oneCell']) (hH220.blk (i := 0) rfl) rfl) <| fun w222 hH223 => ?_
     simp only [z2] at hH223
     refine RL.nil <| SR <| V (fA underlying52 1 rfl sizeOf3 rfl) <| V (run_ld underlying3 rfl rfl (hH223.cell (i := 0) rfl (v := I _) rfl)) <| V (run_eql rfl rfl) <| RL.nil <| CW.condP rfl (fun h225 => ?_) (fun h225 => ?_)
     ·refine CW.regionS (by kernel_rfl) hH223 (sP (sP (sQ sR))) <| fun w226 hH227 => have zh227 := hH227.sub (sP (sP (sQ sR))); AQ 0 rfl zh227 (fA underlying32 0 rfl sizeOf30 e3_216) <| AT 1 rfl zh227 (fun w hS => run_ld underlying30 rfl rfl (hS.cell (i := 1) rfl rfl)) <| AQ 2 rfl zh227 (mV (I _) rfl) <| AQ 3 rfl zh227 (fA underlying55 0 rfl sizeOf50 e1_216) <| AT 4 rfl zh227 (fun w hS => run_ldV ((hs.mono hK).lats.sl.hp hS) underlying50 rfl rfl (hS.cell (i := 4) rfl rfl)) <| AQ 5 rfl zh227 (fA underlying52 2 rfl sizeOf3 rfl) <| AT 6 rfl zh227 (fun w hS => run_ld underlying3 rfl rfl (hS.cell (i := 0) rfl (v := I _) rfl)) <| A1 7 <| AO.callP rfl gnone rfl hH227 (sP (sP (sQ sR))) (c_assign_at_api_Lat s _ _ (hs.mono (hK.trans hH227.kw))) (run_call2 call29 rfl rfl) <| fun w228 hH229 => AQ 8 rfl (hH229.sub (sP (sP (sQ sR)))) (run_fieldA underlying49 rfl isAgg47 sizeOf47 rfl (latL_shp _)) <| A1 9 <| AO.callP rfl gnone rfl hH229 (sP (sP (sQ sR))) (c_shape_Bottom _  _ ((lat_at_v (hs.mono hK) _).mono hH229.kw) (hT.hp hH229)) (run_call1 call28 rfl) <| fun w230 hH231 => A1 10 <| AO.read rfl gnone rfl hH231 (sP (sP (sQ sR))) (run_indexAddrS (hH231.sl (i := 2) rfl) underlying30 sizeOf25 rfl rfl (by omega)) <| A1 11 <| AO.rowst rfl gnone hH231 (i := 2) rfl (fun _ => (sP (sP (sQ sR)))) (by omega) rfl (new := elL _) ((rfl : _ = Value.agg (elC _)).trans (by rw [elC_def])) (elL_one _) (by rw [elL_len]; rfl) (by rw [elL_len]; omega) <| fun w236 hH237 => ?_
      simp only [z2] at hH237
      refine AD <| CW.region <| V (run_add e18_216 rfl (by omega)) <| mI rfl <| RL.nil <| ?_
      refine ⟨k + 1, ?_, fr216.u4.u4.u4.u4.u4.u1.u1, (Hp.conv (hH237.sub (sQ sR)) (by rw [lsK_put h0 ‹k < _› ‹(s.vars.getD k.toNat var0).kind = 1›]; done)), (congrArg I (by rfl)), ?_, ?_⟩
      ·((try dsimp only); omega)
      ·omega
      ·omega
     ·refine CW.skip <| CW.region <| V (run_add e18_216 rfl (by omega)) <| mI rfl <| RL.nil <| ?_
      refine ⟨k + 1, ?_, fr216.u4.u4.u1.u1.u1, (Hp.conv (hH223.sub (sQ sR)) (by rw [lsK_n h0 ‹k < _› ‹¬ (s.vars.getD k.toNat var0).kind = 1›]; done)), (congrArg I (by rfl)), ?_, ?_⟩
      ·((try dsimp only); omega)
      ·omega
      ·omega
    ·refine CW.exit (id := 0) rfl <| SR <| ?_
     obtain ⟨Z238, hz239, hv240, -⟩ := (hH216.perm (((pC pR).trans pS).trans (pC pR))).frz (K)
     have hH241 : Hp _ w216 (_ :: _ :: _ :: _ :: Z238) := hz239.zin0 (L := [_, _, _, _])
     obtain ⟨Z242, hz243, hv244, -⟩ := (hH241.perm (((pC pR).trans pS).trans (pC pR))).frz (K)
     have hH245 : Hp _ w216 (_ :: _ :: _ :: (Z242 ++ Z238)) := hz243.zin (L := [_, _, _]) (L' := Z238)
     have hN246 : AsgV (Kz K (Z242 ++ Z238)) (⟨(.slice (some ⟨b163, 0, none⟩) (s.vars.length) (s.vars.length)), s.vars.map (botV s.sc), (.slice (some ⟨b157, 0, none⟩) (s.vars.length) (s.vars.length)), List.replicate s.vars.length vr0⟩ : Asg) := ⟨lsv h0 ‹¬ k < _› (hv240.mono (Le.zz (fun x hx => (List.mem_append_right _ hx)))), rsv (hv244.mono (Le.zz (fun x hx => (List.mem_append_left _ hx)))), RowsV.nils _ _⟩
     refine V (run_ldA (cs := asgL (⟨(.slice (some ⟨b163, 0, none⟩) (s.vars.length) (s.vars.length)), s.vars.map (botV s.sc), (.slice (some ⟨b157, 0, none⟩) (s.vars.length) (s.vars.length)), List.replicate s.vars.length vr0⟩ : Asg)) underlying32 rfl rfl e3_216 (rangeAt_cells (hH245.blk (i := 0) rfl))) <| RL.set hH245 (i := 1) rfl (run_stW (c' := (asgL (⟨(.slice (some ⟨b163, 0, none⟩) (s.vars.length) (s.vars.length)), s.vars.map (botV s.sc), (.slice (some ⟨b157, 0, none⟩) (s.vars.length) (s.vars.length)), List.replicate s.vars.length vr0⟩ : Asg)).toArray) rfl e2_216 rfl (asgL_one hN246) (hH245.blk (i := 1) rfl) rfl) <| fun w247 hH248 => ?_
     simp only [z2] at hH248
     refine RL.nil <| CW.ret <| outCg Tryd.results14 e2_216 hH248 (i := 1) rfl underlying32 rfl rfl ⟨(Z242 ++ Z238), (hH248.sub (sQ (sQ (sQ sR)))), (⟨(.slice (some ⟨b163, 0, none⟩) (s.vars.length) (s.vars.length)), s.vars.map (botV s.sc), (.slice (some ⟨b157, 0, none⟩) (s.vars.length) (s.vars.length)), List.replicate s.vars.length vr0⟩ : Asg), rfl, ?_, hN246⟩
     exact least2_is
  ·refine AO.new rfl gnone rfl hH158 (sQ sR) (f := fun b => .pointer (some ⟨b, 0, none⟩)) (run_alloc zero_asg) <| fun b251 w249 hH250 => A1 3 <| AO.new rfl gnone rfl hH250 (sQ (sQ sR)) (f := fun b => .slice (some ⟨b, 0, none⟩) (s.vars.length) (s.vars.length)) (run_mkRow (cl := elL) (sz := 8) (z0 := el0) (n := s.vars.length) (elL_len) (by decide) underlying30 rfl rfl (by kernel_rfl) rfl rfl rfl (by show 64 * _ ≤ _; omega) (by simp only [maxLen]; omega)) <| fun b256 w254 hH255 => have hH257 := hH255.blkRow (s.vars.length) 8 (by rw [flat_length (cl := elL) (elL_len), List.length_replicate]) (by simp only [maxLen]; omega); A1 8 <| AO.read rfl gnone rfl hH257 (sQ (sQ (sQ sR))) (run_bld (vs := [(0, (.slice (some ⟨b256, 0, none⟩) (s.vars.length) (s.vars.length))), (1, (.slice (some ⟨b157, 0, none⟩) (s.vars.length) (s.vars.length)))]) rfl (built_asgV (row_cells (hH257.get (i := 0) rfl)).1 (row_cells (hH257.get (i := 2) rfl)).1)) <| A1 10 <| AO.set rfl gnone hH257 (j := 1) rfl (sQ (sQ (sQ sR))) (run_stW (c' := #[(.slice (some ⟨b256, 0, none⟩) (s.vars.length) (s.vars.length)), (.slice (some ⟨b157, 0, none⟩) (s.vars.length) (s.vars.length))]) rfl rfl rfl (one_pair (row_cells (hH257.get (i := 0) rfl)).2 (row_cells (hH257.get (i := 2) rfl)).2) (hH257.blk (i := 1) rfl) rfl) <| fun w262 hH263 => ?_
   simp only [z2] at hH263
   refine AD <| CW.seq <| SR <| V (fA underlying55 1 rfl sizeOf53 rfl) <| V (run_ldV ((hs.mono hK).vars.sl.hp hH263) underlying53 rfl rfl (hH263.cell (i := 4) rfl rfl)) <| V (run_lenSl ((hs.mono hK).vars.sl.hp hH263) rfl underlying53 rfl) <| vm (v := I 0) rfl <| RL.nil <| CW.block <| CW.loop (G := Int) (fun k s' w' => (Fr (4 :: 5 :: (rg 18 20 [])) _ s') ∧ (Hp w w' (.row (.slice (some ⟨b256, 0, none⟩) (s.vars.length) (s.vars.length)) 25 8 s.vars.length ((lsK s k).flatMap elL) :: _)) ∧ (s' 18 = I k) ∧ (0 ≤ k) ∧ (k ≤ s.vars.length)) (fun k => (s.vars.length - k).toNat) (0) ⟨Fr.refl _ _, hH263, rfl, (by omega), (by omega)⟩ <| ?_
   rintro k sg264 w264 ⟨fr264, hH264, e18_264, h0, hk⟩
   have e1_264 := fr264.pp 1 rfl rfl
   have e2_264 := fr264.pp 2 rfl rfl
   have e3_264 := fr264.pp 3 rfl rfl
   have e16_264 := (fr264 16 rfl).trans (by conv => lhs; whnf)
   have e17_264 := fr264.ii 17 rfl rfl
   refine SR <| V (run_lss e18_264 e17_264) <| RL.nil <| CW.seq <| CW.condP rfl (fun h266 => ?_) (fun h266 => ?_)
   ·refine CW.skip <| CW.seq <| CW.block <| SR <| vm e18_264 <| V (run_indexAddrS ((hs.mono hK).vars.sl.hp hH264) underlying53 sizeOf52 e16_264 e18_264 (by omega)) <| V (run_ldE (dv := var0) varL_len ((hs.mono hK).vars.sl.hp hH264) underlying52 rfl rfl rfl (by omega)) <| RL.new rfl hH264 (f := fun b => (.pointer (some ⟨b, 0, none⟩))) (run_alloc Tryd.zeroValue52) <| fun b269 w267 hH268 => aI rfl <| RL.set hH268 (i := 0) rfl (run_stW (c' := (varL _).toArray) rfl rfl rfl (by simp [varL, Value.oneCell']) (hH268.blk (i := 0) rfl) rfl) <| fun w270 hH271 => ?_
    simp only [z2] at hH271
    refine RL.nil <| SR <| V (fA underlying52 1 rfl sizeOf3 rfl) <| V (run_ld underlying3 rfl rfl (hH271.cell (i := 0) rfl (v := I _) rfl)) <| V (run_eql rfl rfl) <| RL.nil <| CW.condP rfl (fun h273 => ?_) (fun h273 => ?_)
    ·refine CW.regionS (by kernel_rfl) hH271 (sP (sQ sR)) <| fun w274 hH275 => have zh275 := hH275.sub (sP (sQ sR)); AQ 0 rfl zh275 (fA underlying32 0 rfl sizeOf30 e3_264) <| AT 1 rfl zh275 (fun w hS => run_ld underlying30 rfl rfl (hS.cell (i := 1) rfl rfl)) <| AQ 2 rfl zh275 (mV (I _) rfl) <| AQ 3 rfl zh275 (fA underlying55 0 rfl sizeOf50 e1_264) <| AT 4 rfl zh275 (fun w hS => run_ldV ((hs.mono hK).lats.sl.hp hS) underlying50 rfl rfl (hS.cell (i := 4) rfl rfl)) <| AQ 5 rfl zh275 (fA underlying52 2 rfl sizeOf3 rfl) <| AT 6 rfl zh275 (fun w hS => run_ld underlying3 rfl rfl (hS.cell (i := 0) rfl (v := I _) rfl)) <| A1 7 <| AO.callP rfl gnone rfl hH275 (sP (sQ sR)) (c_assign_at_api_Lat s _ _ (hs.mono (hK.trans hH275.kw))) (run_call2 call29 rfl rfl) <| fun w276 hH277 => AQ 8 rfl (hH277.sub (sP (sQ sR))) (run_fieldA underlying49 rfl isAgg47 sizeOf47 rfl (latL_shp _)) <| A1 9 <| AO.callP rfl gnone rfl hH277 (sP (sQ sR)) (c_shape_Bottom _  _ ((lat_at_v (hs.mono hK) _).mono hH277.kw) (hT.hp hH277)) (run_call1 call28 rfl) <| fun w278 hH279 => A1 10 <| AO.read rfl gnone rfl hH279 (sP (sQ sR)) (run_indexAddrS (hH279.sl (i := 1) rfl) underlying30 sizeOf25 rfl rfl (by omega)) <| A1 11 <| AO.rowst rfl gnone hH279 (i := 1) rfl (fun _ => (sP (sQ sR))) (by omega) rfl (new := elL _) ((rfl : _ = Value.agg (elC _)).trans (by rw [elC_def])) (elL_one _) (by rw [elL_len]; rfl) (by rw [elL_len]; omega) <| fun w284 hH285 => ?_
     simp only [z2] at hH285
     refine AD <| CW.region <| V (run_add e18_264 rfl (by omega)) <| mI rfl <| RL.nil <| ?_
     refine ⟨k + 1, ?_, fr264.u4.u4.u4.u4.u4.u1.u1, (Hp.conv (hH285.sub (sQ sR)) (by rw [lsK_put h0 ‹k < _› ‹(s.vars.getD k.toNat var0).kind = 1›]; done)), (congrArg I (by rfl)), ?_, ?_⟩
     ·((try dsimp only); omega)
     ·omega
     ·omega
    ·refine CW.skip <| CW.region <| V (run_add e18_264 rfl (by omega)) <| mI rfl <| RL.nil <| ?_
     refine ⟨k + 1, ?_, fr264.u4.u4.u1.u1.u1, (Hp.conv (hH271.sub (sQ sR)) (by rw [lsK_n h0 ‹k < _› ‹¬ (s.vars.getD k.toNat var0).kind = 1›]; done)), (congrArg I (by rfl)), ?_, ?_⟩
     ·((try dsimp only); omega)
     ·omega
     ·omega
   ·refine CW.exit (id := 0) rfl <| SR <| ?_
    obtain ⟨Z286, hz287, hv288, -⟩ := hH264.frz (K)
    have hH289 : Hp _ w264 (_ :: _ :: _ :: _ :: Z286) := hz287.zin0 (L := [_, _, _, _])
    obtain ⟨Z290, hz291, hv292, -⟩ := (hH289.perm (((pC pR).trans pS).trans (pC pR))).frz (K)
    have hH293 : Hp _ w264 (_ :: _ :: _ :: (Z290 ++ Z286)) := hz291.zin (L := [_, _, _]) (L' := Z286)
    have hN294 : AsgV (Kz K (Z290 ++ Z286)) (⟨(.slice (some ⟨b256, 0, none⟩) (s.vars.length) (s.vars.length)), s.vars.map (botV s.sc), (.slice (some ⟨b157, 0, none⟩) (s.vars.length) (s.vars.length)), List.replicate s.vars.length vr0⟩ : Asg) := ⟨lsv h0 ‹¬ k < _› (hv288.mono (Le.zz (fun x hx => (List.mem_append_right _ hx)))), rsv (hv292.mono (Le.zz (fun x hx => (List.mem_append_left _ hx)))), RowsV.nils _ _⟩
    refine V (run_ldA (cs := asgL (⟨(.slice (some ⟨b256, 0, none⟩) (s.vars.length) (s.vars.length)), s.vars.map (botV s.sc), (.slice (some ⟨b157, 0, none⟩) (s.vars.length) (s.vars.length)), List.replicate s.vars.length vr0⟩ : Asg)) underlying32 rfl rfl e3_264 (rangeAt_cells (hH293.blk (i := 0) rfl))) <| RL.set hH293 (i := 1) rfl (run_stW (c' := (asgL (⟨(.slice (some ⟨b256, 0, none⟩) (s.vars.length) (s.vars.length)), s.vars.map (botV s.sc), (.slice (some ⟨b157, 0, none⟩) (s.vars.length) (s.vars.length)), List.replicate s.vars.length vr0⟩ : Asg)).toArray) rfl e2_264 rfl (asgL_one hN294) (hH293.blk (i := 1) rfl) rfl) <| fun w295 hH296 => ?_
    simp only [z2] at hH296
    refine RL.nil <| CW.ret <| outCg Tryd.results14 e2_264 hH296 (i := 1) rfl underlying32 rfl rfl ⟨(Z290 ++ Z286), (hH296.sub (sQ (sQ (sQ sR)))), (⟨(.slice (some ⟨b256, 0, none⟩) (s.vars.length) (s.vars.length)), s.vars.map (botV s.sc), (.slice (some ⟨b157, 0, none⟩) (s.vars.length) (s.vars.length)), List.replicate s.vars.length vr0⟩ : Asg), rfl, ?_, hN294⟩
    exact least2_is
 ·refine AO.new rfl gnone rfl hH8 sR (f := fun b => .pointer (some ⟨b, 0, none⟩)) (run_alloc zero_asg) <| fun b299 w297 hH298 => AN.two 3 7 (by kernel_rfl) ?_ ?_
  ·refine AO.new rfl gnone rfl hH298 (sQ sR) (f := fun b => .slice (some ⟨b, 0, none⟩) (s.vars.length) (s.vars.length)) (run_mkRow (cl := elL) (sz := 8) (z0 := el0) (n := s.vars.length) (elL_len) (by decide) underlying30 rfl rfl (by kernel_rfl) rfl rfl rfl (by show 64 * _ ≤ _; omega) (by simp only [maxLen]; omega)) <| fun b304 w302 hH303 => have hH305 := hH303.blkRow (s.vars.length) 8 (by rw [flat_length (cl := elL) (elL_len), List.length_replicate]) (by simp only [maxLen]; omega); A1 7 <| AO.new rfl gnone rfl hH305 (sQ (sQ sR)) (f := fun b => .slice (some ⟨b, 0, none⟩) (s.vars.length) (s.vars.length)) (run_mkRow (cl := (fun r : VrR => [r.v])) (sz := 1) (z0 := vr0) (n := s.vars.length) (fun _ => rfl) (by decide) underlying29 rfl rfl (by kernel_rfl) rfl rfl rfl (by show 24 * _ ≤ _; omega) (by simp only [maxLen]; omega)) <| fun b310 w308 hH309 => have hH311 := hH309.blkRow (s.vars.length) 1 (by rw [flat_length (cl := (fun r : VrR => [r.v])) (fun _ => rfl), List.length_replicate]) (by simp only [maxLen]; omega); A1 8 <| AO.read rfl gnone rfl hH311 (sQ (sQ (sQ sR))) (run_bld (vs := [(0, (.slice (some ⟨b304, 0, none⟩) (s.vars.length) (s.vars.length))), (1, (.slice (some ⟨b310, 0, none⟩) (s.vars.length) (s.vars.length)))]) rfl (built_asgV (row_cells (hH311.get (i := 1) rfl)).1 (row_cells (hH311.get (i := 0) rfl)).1)) <| A1 10 <| AO.set rfl gnone hH311 (j := 2) rfl (sQ (sQ (sQ sR))) (run_stW (c' := #[(.slice (some ⟨b304, 0, none⟩) (s.vars.length) (s.vars.length)), (.slice (some ⟨b310, 0, none⟩) (s.vars.length) (s.vars.length))]) rfl rfl rfl (one_pair (row_cells (hH311.get (i := 1) rfl)).2 (row_cells (hH311.get (i := 0) rfl)).2) (hH311.blk (i := 2) rfl) rfl) <| fun w316 hH317 => ?_
   simp only [z2] at hH317
   refine AD <| CW.seq <| SR <| V (fA underlying55 1 rfl sizeOf53 rfl) <| V (run_ldV ((hs.mono hK).vars.sl.hp hH317) underlying53 rfl rfl (hH317.cell (i := 4) rfl rfl)) <| V (run_lenSl ((hs.mono hK).vars.sl.hp hH317) rfl underlying53 rfl) <| vm (v := I 0) rfl <| RL.nil <| CW.block <| CW.loop (G := Int) (fun k s' w' => (Fr (4 :: 5 :: (rg 18 20 [])) _ s') ∧ (Hp w w' (_ :: .row (.slice (some ⟨b304, 0, none⟩) (s.vars.length) (s.vars.length)) 25 8 s.vars.length ((lsK s k).flatMap elL) :: _)) ∧ (s' 18 = I k) ∧ (0 ≤ k) ∧ (k ≤ s.vars.length)) (fun k => (s.vars.length - k).toNat) (0) ⟨Fr.refl _ _, hH317, rfl, (by omega), (by omega)⟩ <| ?_
   rintro k sg318 w318 ⟨fr318, hH318, e18_318, h0, hk⟩
   have e1_318 := fr318.pp 1 rfl rfl
   have e2_318 := fr318.pp 2 rfl rfl
   have e3_318 := fr318.pp 3 rfl rfl
   have e16_318 := (fr318 16 rfl).trans (by conv => lhs; whnf)
   have e17_318 := fr318.ii 17 rfl rfl
   refine SR <| V (run_lss e18_318 e17_318) <| RL.nil <| CW.seq <| CW.condP rfl (fun h320 => ?_) (fun h320 => ?_)
   ·refine CW.skip <| CW.seq <| CW.block <| SR <| vm e18_318 <| V (run_indexAddrS ((hs.mono hK).vars.sl.hp hH318) underlying53 sizeOf52 e16_318 e18_318 (by omega)) <| V (run_ldE (dv := var0) varL_len ((hs.mono hK).vars.sl.hp hH318) underlying52 rfl rfl rfl (by omega)) <| RL.new rfl hH318 (f := fun b => (.pointer (some ⟨b, 0, none⟩))) (run_alloc Tryd.zeroValue52) <| fun b323 w321 hH322 => aI rfl <| RL.set hH322 (i := 0) rfl (run_stW (c' := (varL _).toArray) rfl rfl rfl (by simp [varL, Value.oneCell']) (hH322.blk (i := 0) rfl) rfl) <| fun w324 hH325 => ?_
    simp only [z2] at hH325
    refine RL.nil <| SR <| V (fA underlying52 1 rfl sizeOf3 rfl) <| V (run_ld underlying3 rfl rfl (hH325.cell (i := 0) rfl (v := I _) rfl)) <| V (run_eql rfl rfl) <| RL.nil <| CW.condP rfl (fun h327 => ?_) (fun h327 => ?_)
    ·refine CW.regionS (by kernel_rfl) hH325 (sP (sP (sQ sR))) <| fun w328 hH329 => have zh329 := hH329.sub (sP (sP (sQ sR))); AQ 0 rfl zh329 (fA underlying32 0 rfl sizeOf30 e3_318) <| AT 1 rfl zh329 (fun w hS => run_ld underlying30 rfl rfl (hS.cell (i := 2) rfl rfl)) <| AQ 2 rfl zh329 (mV (I _) rfl) <| AQ 3 rfl zh329 (fA underlying55 0 rfl sizeOf50 e1_318) <| AT 4 rfl zh329 (fun w hS => run_ldV ((hs.mono hK).lats.sl.hp hS) underlying50 rfl rfl (hS.cell (i := 4) rfl rfl)) <| AQ 5 rfl zh329 (fA underlying52 2 rfl sizeOf3 rfl) <| AT 6 rfl zh329 (fun w hS => run_ld underlying3 rfl rfl (hS.cell (i := 0) rfl (v := I _) rfl)) <| A1 7 <| AO.callP rfl gnone rfl hH329 (sP (sP (sQ sR))) (c_assign_at_api_Lat s _ _ (hs.mono (hK.trans hH329.kw))) (run_call2 call29 rfl rfl) <| fun w330 hH331 => AQ 8 rfl (hH331.sub (sP (sP (sQ sR)))) (run_fieldA underlying49 rfl isAgg47 sizeOf47 rfl (latL_shp _)) <| A1 9 <| AO.callP rfl gnone rfl hH331 (sP (sP (sQ sR))) (c_shape_Bottom _  _ ((lat_at_v (hs.mono hK) _).mono hH331.kw) (hT.hp hH331)) (run_call1 call28 rfl) <| fun w332 hH333 => A1 10 <| AO.read rfl gnone rfl hH333 (sP (sP (sQ sR))) (run_indexAddrS (hH333.sl (i := 2) rfl) underlying30 sizeOf25 rfl rfl (by omega)) <| A1 11 <| AO.rowst rfl gnone hH333 (i := 2) rfl (fun _ => (sP (sP (sQ sR)))) (by omega) rfl (new := elL _) ((rfl : _ = Value.agg (elC _)).trans (by rw [elC_def])) (elL_one _) (by rw [elL_len]; rfl) (by rw [elL_len]; omega) <| fun w338 hH339 => ?_
     simp only [z2] at hH339
     refine AD <| CW.region <| V (run_add e18_318 rfl (by omega)) <| mI rfl <| RL.nil <| ?_
     refine ⟨k + 1, ?_, fr318.u4.u4.u4.u4.u4.u1.u1, (Hp.conv (hH339.sub (sQ sR)) (by rw [lsK_put h0 ‹k < _› ‹(s.vars.getD k.toNat var0).kind = 1›]; done)), (congrArg I (by rfl)), ?_, ?_⟩
     ·((try dsimp only); omega)
     ·omega
     ·omega
    ·refine CW.skip <| CW.region <| V (run_add e18_318 rfl (by omega)) <| mI rfl <| RL.nil <| ?_
     refine ⟨k + 1, ?_, fr318.u4.u4.u1.u1.u1, (Hp.conv (hH325.sub (sQ sR)) (by rw [lsK_n h0 ‹k < _› ‹¬ (s.vars.getD k.toNat var0).kind = 1›]; done)), (congrArg I (by rfl)), ?_, ?_⟩
     ·((try dsimp only); omega)
     ·omega
     ·omega
   ·refine CW.exit (id := 0) rfl <| SR <| ?_
    obtain ⟨Z340, hz341, hv342, -⟩ := (hH318.perm (((pC pR).trans pS).trans (pC pR))).frz (K)
    have hH343 : Hp _ w318 (_ :: _ :: _ :: _ :: Z340) := hz341.zin0 (L := [_, _, _, _])
    obtain ⟨Z344, hz345, hv346, -⟩ := hH343.frz (K)
    have hH347 : Hp _ w318 (_ :: _ :: _ :: (Z344 ++ Z340)) := hz345.zin (L := [_, _, _]) (L' := Z340)
    have hN348 : AsgV (Kz K (Z344 ++ Z340)) (⟨(.slice (some ⟨b304, 0, none⟩) (s.vars.length) (s.vars.length)), s.vars.map (botV s.sc), (.slice (some ⟨b310, 0, none⟩) (s.vars.length) (s.vars.length)), List.replicate s.vars.length vr0⟩ : Asg) := ⟨lsv h0 ‹¬ k < _› (hv342.mono (Le.zz (fun x hx => (List.mem_append_right _ hx)))), rsv (hv346.mono (Le.zz (fun x hx => (List.mem_append_left _ hx)))), RowsV.nils _ _⟩
    refine V (run_ldA (cs := asgL (⟨(.slice (some ⟨b304, 0, none⟩) (s.vars.length) (s.vars.length)), s.vars.map (botV s.sc), (.slice (some ⟨b310, 0, none⟩) (s.vars.length) (s.vars.length)), List.replicate s.vars.length vr0⟩ : Asg)) underlying32 rfl rfl e3_318 (rangeAt_cells (hH347.blk (i := 0) rfl))) <| RL.set hH347 (i := 1) rfl (run_stW (c' := (asgL (⟨(.slice (some ⟨b304, 0, none⟩) (s.vars.length) (s.vars.length)), s.vars.map (botV s.sc), (.slice (some ⟨b310, 0, none⟩) (s.vars.length) (s.vars.length)), List.replicate s.vars.length vr0⟩ : Asg)).toArray) rfl e2_318 rfl (asgL_one hN348) (hH347.blk (i := 1) rfl) rfl) <| fun w349 hH350 => ?_
    simp only [z2] at hH350
    refine RL.nil <| CW.ret <| outCg Tryd.results14 e2_318 hH350 (i := 1) rfl underlying32 rfl rfl ⟨(Z344 ++ Z340), (hH350.sub (sQ (sQ (sQ sR)))), (⟨(.slice (some ⟨b304, 0, none⟩) (s.vars.length) (s.vars.length)), s.vars.map (botV s.sc), (.slice (some ⟨b310, 0, none⟩) (s.vars.length) (s.vars.length)), List.replicate s.vars.length vr0⟩ : Asg), rfl, ?_, hN348⟩
    exact least2_is
  ·refine AO.new rfl gnone rfl hH298 (sQ sR) (f := fun b => .slice (some ⟨b, 0, none⟩) (s.vars.length) (s.vars.length)) (run_mkRow (cl := (fun r : VrR => [r.v])) (sz := 1) (z0 := vr0) (n := s.vars.length) (fun _ => rfl) (by decide) underlying29 rfl rfl (by kernel_rfl) rfl rfl rfl (by show 24 * _ ≤ _; omega) (by simp only [maxLen]; omega)) <| fun b355 w353 hH354 => have hH356 := hH354.blkRow (s.vars.length) 1 (by rw [flat_length (cl := (fun r : VrR => [r.v])) (fun _ => rfl), List.length_replicate]) (by simp only [maxLen]; omega); A1 3 <| AO.new rfl gnone rfl hH356 (sQ (sQ sR)) (f := fun b => .slice (some ⟨b, 0, none⟩) (s.vars.length) (s.vars.length)) (run_mkRow (cl := elL) (sz := 8) (z0 := el0) (n := s.vars.length) (elL_len) (by decide) underlying30 rfl rfl (by kernel_rfl) rfl rfl rfl (by show 64 * _ ≤ _; omega) (by simp only [maxLen]; omega)) <| fun b361 w359 hH360 => have hH362 := hH360.blkRow (s.vars.length) 8 (by rw [flat_length (cl := elL) (elL_len), List.length_replicate]) (by simp only [maxLen]; omega); A1 8 <| AO.read rfl gnone rfl hH362 (sQ (sQ (sQ sR))) (run_bld (vs := [(0, (.slice (some ⟨b361, 0, none⟩) (s.vars.length) (s.vars.length))), (1, (.slice (some ⟨b355, 0, none⟩) (s.vars.length) (s.vars.length)))]) rfl (built_asgV (row_cells (hH362.get (i := 0) rfl)).1 (row_cells (hH362.get (i := 1) rfl)).1)) <| A1 10 <| AO.set rfl gnone hH362 (j := 2) rfl (sQ (sQ (sQ sR))) (run_stW (c' := #[(.slice (some ⟨b361, 0, none⟩) (s.vars.length) (s.vars.length)), (.slice (some ⟨b355, 0, none⟩) (s.vars.length) (s.vars.length))]) rfl rfl rfl (one_pair (row_cells (hH362.get (i := 0) rfl)).2 (row_cells (hH362.get (i := 1) rfl)).2) (hH362.blk (i := 2) rfl) rfl) <| fun w367 hH368 => ?_
   simp only [z2] at hH368
   refine AD <| CW.seq <| SR <| V (fA underlying55 1 rfl sizeOf53 rfl) <| V (run_ldV ((hs.mono hK).vars.sl.hp hH368) underlying53 rfl rfl (hH368.cell (i := 4) rfl rfl)) <| V (run_lenSl ((hs.mono hK).vars.sl.hp hH368) rfl underlying53 rfl) <| vm (v := I 0) rfl <| RL.nil <| CW.block <| CW.loop (G := Int) (fun k s' w' => (Fr (4 :: 5 :: (rg 18 20 [])) _ s') ∧ (Hp w w' (.row (.slice (some ⟨b361, 0, none⟩) (s.vars.length) (s.vars.length)) 25 8 s.vars.length ((lsK s k).flatMap elL) :: _)) ∧ (s' 18 = I k) ∧ (0 ≤ k) ∧ (k ≤ s.vars.length)) (fun k => (s.vars.length - k).toNat) (0) ⟨Fr.refl _ _, hH368, rfl, (by omega), (by omega)⟩ <| ?_
   rintro k sg369 w369 ⟨fr369, hH369, e18_369, h0, hk⟩
   have e1_369 := fr369.pp 1 rfl rfl
   have e2_369 := fr369.pp 2 rfl rfl
   have e3_369 := fr369.pp 3 rfl rfl
   have e16_369 := (fr369 16 rfl).trans (by conv => lhs; whnf)
   have e17_369 := fr369.ii 17 rfl rfl
   refine SR <| V (run_lss e18_369 e17_369) <| RL.nil <| CW.seq <| CW.condP rfl (fun h371 => ?_) (fun h371 => ?_)
   ·refine CW.skip <| CW.seq <| CW.block <| SR <| vm e18_369 <| V (run_indexAddrS ((hs.mono hK).vars.sl.hp hH369) underlying53 sizeOf52 e16_369 e18_369 (by omega)) <| V (run_ldE (dv := var0) varL_len ((hs.mono hK).vars.sl.hp hH369) underlying52 rfl rfl rfl (by omega)) <| RL.new rfl hH369 (f := fun b => (.pointer (some ⟨b, 0, none⟩))) (run_alloc Tryd.zeroValue52) <| fun b374 w372 hH373 => aI rfl <| RL.set hH373 (i := 0) rfl (run_stW (c' := (varL _).toArray) rfl rfl rfl (by simp [varL, Value.oneCell']) (hH373.blk (i := 0) rfl) rfl) <| fun w375 hH376 => ?_
    simp only [z2] at hH376
    refine RL.nil <| SR <| V (fA underlying52 1 rfl sizeOf3 rfl) <| V (run_ld underlying3 rfl rfl (hH376.cell (i := 0) rfl (v := I _) rfl)) <| V (run_eql rfl rfl) <| RL.nil <| CW.condP rfl (fun h378 => ?_) (fun h378 => ?_)
    ·refine CW.regionS (by kernel_rfl) hH376 (sP (sQ sR)) <| fun w379 hH380 => have zh380 := hH380.sub (sP (sQ sR)); AQ 0 rfl zh380 (fA underlying32 0 rfl sizeOf30 e3_369) <| AT 1 rfl zh380 (fun w hS => run_ld underlying30 rfl rfl (hS.cell (i := 2) rfl rfl)) <| AQ 2 rfl zh380 (mV (I _) rfl) <| AQ 3 rfl zh380 (fA underlying55 0 rfl sizeOf50 e1_369) <| AT 4 rfl zh380 (fun w hS => run_ldV ((hs.mono hK).lats.sl.hp hS) underlying50 rfl rfl (hS.cell (i := 4) rfl rfl)) <| AQ 5 rfl zh380 (fA underlying52 2 rfl sizeOf3 rfl) <| AT 6 rfl zh380 (fun w hS => run_ld underlying3 rfl rfl (hS.cell (i := 0) rfl (v := I _) rfl)) <| A1 7 <| AO.callP rfl gnone rfl hH380 (sP (sQ sR)) (c_assign_at_api_Lat s _ _ (hs.mono (hK.trans hH380.kw))) (run_call2 call29 rfl rfl) <| fun w381 hH382 => AQ 8 rfl (hH382.sub (sP (sQ sR))) (run_fieldA underlying49 rfl isAgg47 sizeOf47 rfl (latL_shp _)) <| A1 9 <| AO.callP rfl gnone rfl hH382 (sP (sQ sR)) (c_shape_Bottom _  _ ((lat_at_v (hs.mono hK) _).mono hH382.kw) (hT.hp hH382)) (run_call1 call28 rfl) <| fun w383 hH384 => A1 10 <| AO.read rfl gnone rfl hH384 (sP (sQ sR)) (run_indexAddrS (hH384.sl (i := 1) rfl) underlying30 sizeOf25 rfl rfl (by omega)) <| A1 11 <| AO.rowst rfl gnone hH384 (i := 1) rfl (fun _ => (sP (sQ sR))) (by omega) rfl (new := elL _) ((rfl : _ = Value.agg (elC _)).trans (by rw [elC_def])) (elL_one _) (by rw [elL_len]; rfl) (by rw [elL_len]; omega) <| fun w389 hH390 => ?_
     simp only [z2] at hH390
     refine AD <| CW.region <| V (run_add e18_369 rfl (by omega)) <| mI rfl <| RL.nil <| ?_
     refine ⟨k + 1, ?_, fr369.u4.u4.u4.u4.u4.u1.u1, (Hp.conv (hH390.sub (sQ sR)) (by rw [lsK_put h0 ‹k < _› ‹(s.vars.getD k.toNat var0).kind = 1›]; done)), (congrArg I (by rfl)), ?_, ?_⟩
     ·((try dsimp only); omega)
     ·omega
     ·omega
    ·refine CW.skip <| CW.region <| V (run_add e18_369 rfl (by omega)) <| mI rfl <| RL.nil <| ?_
     refine ⟨k + 1, ?_, fr369.u4.u4.u1.u1.u1, (Hp.conv (hH376.sub (sQ sR)) (by rw [lsK_n h0 ‹k < _› ‹¬ (s.vars.getD k.toNat var0).kind = 1›]; done)), (congrArg I (by rfl)), ?_, ?_⟩
     ·((try dsimp only); omega)
     ·omega
     ·omega
   ·refine CW.exit (id := 0) rfl <| SR <| ?_
    obtain ⟨Z391, hz392, hv393, -⟩ := hH369.frz (K)
    have hH394 : Hp _ w369 (_ :: _ :: _ :: _ :: Z391) := hz392.zin0 (L := [_, _, _, _])
    obtain ⟨Z395, hz396, hv397, -⟩ := hH394.frz (K)
    have hH398 : Hp _ w369 (_ :: _ :: _ :: (Z395 ++ Z391)) := hz396.zin (L := [_, _, _]) (L' := Z391)
    have hN399 : AsgV (Kz K (Z395 ++ Z391)) (⟨(.slice (some ⟨b361, 0, none⟩) (s.vars.length) (s.vars.length)), s.vars.map (botV s.sc), (.slice (some ⟨b355, 0, none⟩) (s.vars.length) (s.vars.length)), List.replicate s.vars.length vr0⟩ : Asg) := ⟨lsv h0 ‹¬ k < _› (hv393.mono (Le.zz (fun x hx => (List.mem_append_right _ hx)))), rsv (hv397.mono (Le.zz (fun x hx => (List.mem_append_left _ hx)))), RowsV.nils _ _⟩
    refine V (run_ldA (cs := asgL (⟨(.slice (some ⟨b361, 0, none⟩) (s.vars.length) (s.vars.length)), s.vars.map (botV s.sc), (.slice (some ⟨b355, 0, none⟩) (s.vars.length) (s.vars.length)), List.replicate s.vars.length vr0⟩ : Asg)) underlying32 rfl rfl e3_369 (rangeAt_cells (hH398.blk (i := 0) rfl))) <| RL.set hH398 (i := 1) rfl (run_stW (c' := (asgL (⟨(.slice (some ⟨b361, 0, none⟩) (s.vars.length) (s.vars.length)), s.vars.map (botV s.sc), (.slice (some ⟨b355, 0, none⟩) (s.vars.length) (s.vars.length)), List.replicate s.vars.length vr0⟩ : Asg)).toArray) rfl e2_369 rfl (asgL_one hN399) (hH398.blk (i := 1) rfl) rfl) <| fun w400 hH401 => ?_
    simp only [z2] at hH401
    refine RL.nil <| CW.ret <| outCg Tryd.results14 e2_369 hH401 (i := 1) rfl underlying32 rfl rfl ⟨(Z395 ++ Z391), (hH401.sub (sQ (sQ (sQ sR)))), (⟨(.slice (some ⟨b361, 0, none⟩) (s.vars.length) (s.vars.length)), s.vars.map (botV s.sc), (.slice (some ⟨b355, 0, none⟩) (s.vars.length) (s.vars.length)), List.replicate s.vars.length vr0⟩ : Asg), rfl, ?_, hN399⟩
    exact least2_is
theorem c_assign_With (K : Vu) (v : Value) (l : List ValR) (f : Tx) (e : El) (hl : l.length ≤ 1000) (w : World) (hK : Le K (Kw w)) (hs : Sl w v 9 l.length (l.flatMap valL)) : Calls Tryd.prog 8 #[v, S f, .agg (elC e)] w (PureF K (fun K' u => SlV K' u 9 (withF l f e).length ((withF l f e).flatMap valL)) w) := by
 have hm := hs.small
 unfold maxLen at hm
 have hvi := @vfind_in l f
 refine enter Tryd.func8 rfl Tryd.ntmps8 rfl <| have hH := Hp.start w; SR <| RL.new rfl hH (f := fun b => (.pointer (some ⟨b, 0, none⟩))) (run_box (v := .agg _) rfl) <| fun b3 w1 hH2 => va (v := .slice none 0 0) rfl <| RL.nil <| SR <| vm (v := .string _) rfl <| V (run_ldEl underlying25 rfl rfl rfl (hH2.blk (i := 0) rfl)) <| V (run_bld (vs := [(0, S _), (1, .agg (elC _))]) rfl (built_val _ _)) <| RL.new rfl hH2 (f := fun b => (.pointer (some ⟨b, 0, none⟩))) (run_alloc zero_val) <| fun b6 w4 hH5 => RL.set hH5 (i := 0) rfl (run_stW (c' := (valL _).toArray) rfl rfl rfl (valL_one _) (hH5.blk (i := 0) rfl) rfl) <| fun w7 hH8 => ?_
 simp only [z2] at hH8
 refine RL.nil <| CW.seq <| SR <| ?_
 refine V (run_move (by conv => lhs; whnf)) ?_
 refine vm (v := .string _) rfl <| RL.callP rfl hH8 (c_assign_place _ _ _  _ (hs.hp hH8)) (run_call2 call15 rfl rfl) <| fun w9 hH10 => aI rfl <| RL.nil <| SR <| mI rfl <| V (run_geq rfl rfl) <| RL.nil <| CW.condP rfl (fun h12 => ?_) (fun h12 => ?_)
 ·refine SR <| RL.new rfl hH10 (f := fun b => (.slice (some ⟨b, 0, none⟩) 0 0)) (run_mkE underlying22 sizeOf27) <| fun b15 w13 hH14 => ?_
  (try simp only [clX] at hH14)
  have hH16 := hH14.blkRow 0 9 rfl (by decide)
  refine V (run_move (by conv => lhs; whnf)) ?_
  refine RL.app rfl hH16 (i := 0) rfl (hs.hp hH16) rfl rfl underlying22 rfl rfl (size := 9) (bytes := 80) rfl rfl rfl (by decide) (vals_one _) (by omega) (by simp only [maxLen]; omega) <| fun v17 w18 hH19 => ?_
  simp only [z2] at hH19
  refine V (run_assign (by conv => lhs; whnf)) ?_
  refine RL.nil <| SR <| ?_
  refine V (run_move (by conv => lhs; whnf)) ?_
  refine mI rfl <| V (run_ldA (cs := valL _) underlying27 rfl rfl rfl (rangeAt_cells (hH19.blk (i := 1) rfl))) <| V (run_indexAddrS (hH19.sl (i := 0) rfl) underlying22 sizeOf27 rfl rfl (by omega)) <| RL.rowst hH19 (i := 0) rfl (by omega) rfl (new := valL ⟨f, e⟩) rfl (fun u hu => valL_one _ u (by simpa using hu)) (by rw [valL_len]; rfl) (by rw [valL_len]; omega) <| fun w20 hH21 => ?_
  simp only [z2] at hH21
  refine RL.nil <| SR <| ?_
  refine V (run_move (by conv => lhs; whnf)) ?_
  refine V (run_assign (by conv => lhs; whnf)) ?_
  refine RL.nil <| CW.ret <| ?_
  obtain ⟨Z22, hz23, hv24, -⟩ := hH21.frz (K)
  have hH25 : Hp _ w20 (_ :: _ :: Z22) := hz23.zin0 (L := [_, _])
  refine out1 Tryd.results8 (v := v17) rfl ⟨Z22, (hH25.sub (sQ (sQ sR))), ?_⟩
  exact with_made1 (by omega) hv24
 ·refine CW.skip <| SR <| va (v := I 0) rfl <| RL.nil <| CW.seq <| CW.block <| CW.loop (G := Int) (fun k s' w' => (Fr (10 :: (rg 28 16 [])) _ s') ∧ (Hp w w' _) ∧ (s' 10 = I k) ∧ (0 ≤ k) ∧ (k ≤ l.length) ∧ (∀ j : Int, 0 ≤ j → j < k → lessT f (l.getD j.toNat val0).name = false)) (fun k => (l.length - k).toNat) (0) ⟨Fr.refl _ _, hH10, rfl, (by omega), (by omega), fun j a b => absurd b (by omega)⟩ <| ?_
  rintro k sg26 w26 ⟨fr26, hH26, e10_26, h0, hk, hg⟩
  have e0_26 := (fr26 0 rfl).trans (by conv => lhs; whnf)
  have e1_26 := fr26.ss 1 rfl rfl
  have e7_26 := fr26.pp 7 rfl rfl
  refine CW.seq <| SR <| vm e10_26 <| vm e0_26 <| V (run_lenSl (hs.hp hH26) rfl underlying22 rfl) <| V (run_lss rfl rfl) <| mB rfl <| RL.splitP (dj := 32) rfl (fun h28 => ?_) (fun h28 => ?_)
  ·refine gT rfl (bT h28) <| vm e1_26 <| gT rfl (bT h28) <| vm e0_26 <| gT rfl (bT h28) <| vm e10_26 <| gT rfl (bT h28) <| V (run_indexAddrS (hs.hp hH26) underlying22 sizeOf27 rfl rfl (by omega)) <| gT rfl (bT h28) <| V (fA underlying27 0 rfl sizeOf9 rfl) <| gT rfl (bT h28) <| V (run_ldE1 (dv := val0) (off := 0) valL_len (hs.hp hH26) underlying9 rfl rfl (by omega) rfl) <| gT rfl (bT h28) <| RL.callP rfl hH26 (c_name_Less _ _  _) (run_call2 call16 rfl rfl) <| fun w29 hH30 => gT rfl (bT h28) <| V (run_not rfl) <| V (run_pickT (bT h28) (v := B _) rfl) <| RL.nil <| CW.cond rfl (fun h33 => ?_) (fun h33 => ?_)
   ·refine CW.skip <| CW.block <| CW.region <| vm e10_26 <| V (run_add rfl rfl (by omega)) <| aI rfl <| RL.nil <| ?_
    refine ⟨k + 1, ?_, fr26.u4.u4.u4.u4.u1, hH30, (congrArg I (by rfl)), ?_, ?_, ?_⟩
    ·((try dsimp only); omega)
    ·omega
    ·omega
    ·exact fun j a b => if e : j = k then e ▸ (by exact nt ‹(!lessT _ _) = true›) else hg j a (by omega)
   ·refine CW.exit (id := 0) rfl <| SR <| vm e0_26 <| V (run_lenSl (hs.hp hH30) rfl underlying22 rfl) <| V (run_add rfl rfl (by omega)) <| RL.new rfl hH30 (f := fun b => .slice (some ⟨b, 0, none⟩) (l.length + 1) (l.length + 1)) (run_mkRow (cl := valL) (sz := 9) (z0 := val0) (n := l.length + 1) (valL_len) (by decide) underlying22 rfl rfl (by kernel_rfl) rfl rfl rfl (by show 80 * _ ≤ _; omega) (by simp only [maxLen]; omega)) <| fun b36 w34 hH35 => have hH37 := hH35.blkRow (l.length + 1) 9 (by rw [flat_length (cl := valL) (valL_len), List.length_replicate]) (by simp only [maxLen]; omega); ?_
    refine V (run_assign (by conv => lhs; whnf)) ?_
    refine RL.nil <| SR <| ?_
    refine V (run_move (by conv => lhs; whnf)) ?_
    refine vm e0_26 <| vm e10_26 <| V (run_cut (hs.hp hH37) underlying22 sizeOf27 rfl rfl (by omega)) <| RL.rowcopy rfl (row_copy0 (c := k.toNat) hH37 (i := 0) rfl (by omega) underlying22 rfl rfl rfl ((hs.hp hH37).cut _ (by omega)) (by show min _ _ = _; omega) (fun u hu => vals_one l u (List.mem_of_mem_take hu))) <| fun w38 hH39 => ?_
    simp only [z2] at hH39
    refine RL.nil <| SR <| ?_
    refine V (run_move (by conv => lhs; whnf)) ?_
    refine vm e10_26 <| V (run_ldA (cs := valL _) underlying27 rfl rfl e7_26 (rangeAt_cells (hH39.blk (i := 1) rfl))) <| V (run_indexAddrS (hH39.sl (i := 0) rfl) underlying22 sizeOf27 rfl rfl (by omega)) <| RL.rowst hH39 (i := 0) rfl (by omega) rfl (new := valL ⟨f, e⟩) rfl (fun u hu => valL_one _ u (by simpa using hu)) (by rw [valL_len]; rfl) (by rw [valL_len]; omega) <| fun w40 hH41 => ?_
    simp only [z2] at hH41
    refine RL.nil <| CW.seq <| CW.regionS (by kernel_rfl) hH41 (sQ sR) <| fun w42 hH43 => have zh43 := hH43.sub (sQ sR); ?_
    refine AQ 0 rfl zh43 (run_move (by conv => lhs; whnf)) ?_
    refine AQ 1 rfl zh43 (run_move e10_26) <| AQ 2 rfl zh43 (run_add rfl rfl (by omega)) <| AQ 4 rfl zh43 (run_move e0_26) <| AQ 5 rfl zh43 (run_move e10_26) <| AN.two 3 6 (by kernel_rfl) ?_ ?_
    ·refine AO.read rfl gnone rfl hH43 (sQ sR) (run_from (hH43.sl (i := 0) rfl) underlying22 sizeOf27 rfl rfl (by omega)) <| A1 6 <| AO.read rfl gnone rfl hH43 (sQ sR) (run_from (hs.hp hH43) underlying22 sizeOf27 rfl rfl (by omega)) <| A1 7 <| AO.rowcopy rfl gnone rfl (row_copyF (c := l.length - k.toNat) (o := (k + 1).toNat) hH43 (i := 0) rfl (by omega) underlying22 rfl rfl rfl (Sl.fr (hs.hp hH43) k.toNat (by omega)) (by show min _ _ = _; omega) (by omega) (fun u hu => vals_one l u (List.mem_of_mem_drop hu))) (fun w' h => h.sub (sQ sR)) <| fun w50 hH51 => ?_
     simp only [z2] at hH51
     refine AD <| SR <| ?_
     refine V (run_move (by conv => lhs; whnf)) ?_
     refine V (run_assign (by conv => lhs; whnf)) ?_
     refine RL.nil <| CW.ret <| ?_
     obtain ⟨Z52, hz53, hv54, -⟩ := hH51.frz (K)
     have hH55 : Hp _ w50 (_ :: _ :: Z52) := hz53.zin0 (L := [_, _])
     refine out1 Tryd.results8 (v := (.slice (some ⟨b36, 0, none⟩) (l.length + 1) (l.length + 1))) rfl ⟨Z52, (hH55.sub (sQ (sQ sR))), ?_⟩
     exact with_made2 (by omega) (spot_y h0 ‹k < _› hg (nf ‹(!lessT _ _) = false›)) h0 hk hv54
    ·refine AO.read rfl gnone rfl hH43 (sQ sR) (run_from (hs.hp hH43) underlying22 sizeOf27 rfl rfl (by omega)) <| A1 3 <| AO.read rfl gnone rfl hH43 (sQ sR) (run_from (hH43.sl (i := 0) rfl) underlying22 sizeOf27 rfl rfl (by omega)) <| A1 7 <| AO.rowcopy rfl gnone rfl (row_copyF (c := l.length - k.toNat) (o := (k + 1).toNat) hH43 (i := 0) rfl (by omega) underlying22 rfl rfl rfl (Sl.fr (hs.hp hH43) k.toNat (by omega)) (by show min _ _ = _; omega) (by omega) (fun u hu => vals_one l u (List.mem_of_mem_drop hu))) (fun w' h => h.sub (sQ sR)) <| fun w62 hH63 => ?_
     simp only [z2] at hH63
     refine AD <| SR <| ?_
     refine V (run_move (by conv => lhs; whnf)) ?_
     refine V (run_assign (by conv => lhs; whnf)) ?_
     refine RL.nil <| CW.ret <| ?_
     obtain ⟨Z64, hz65, hv66, -⟩ := hH63.frz (K)
     have hH67 : Hp _ w62 (_ :: _ :: Z64) := hz65.zin0 (L := [_, _])
     refine out1 Tryd.results8 (v := (.slice (some ⟨b36, 0, none⟩) (l.length + 1) (l.length + 1))) rfl ⟨Z64, (hH67.sub (sQ (sQ sR))), ?_⟩
     exact with_made2 (by omega) (spot_y h0 ‹k < _› hg (nf ‹(!lessT _ _) = false›)) h0 hk hv66
  ·refine gF rfl (bF h28) <| gF rfl (bF h28) <| gF rfl (bF h28) <| gF rfl (bF h28) <| gF rfl (bF h28) <| gF rfl (bF h28) <| gF rfl (bF h28) <| gF rfl (bF h28) <| V (run_pickF (bF h28) (v := B false) rfl) <| RL.nil <| CW.condF rfl <| CW.exit (id := 0) rfl <| SR <| vm e0_26 <| V (run_lenSl (hs.hp hH26) rfl underlying22 rfl) <| V (run_add rfl rfl (by omega)) <| RL.new rfl hH26 (f := fun b => .slice (some ⟨b, 0, none⟩) (l.length + 1) (l.length + 1)) (run_mkRow (cl := valL) (sz := 9) (z0 := val0) (n := l.length + 1) (valL_len) (by decide) underlying22 rfl rfl (by kernel_rfl) rfl rfl rfl (by show 80 * _ ≤ _; omega) (by simp only [maxLen]; omega)) <| fun b70 w68 hH69 => have hH71 := hH69.blkRow (l.length + 1) 9 (by rw [flat_length (cl := valL) (valL_len), List.length_replicate]) (by simp only [maxLen]; omega); ?_
   refine V (run_assign (by conv => lhs; whnf)) ?_
   refine RL.nil <| SR <| ?_
   refine V (run_move (by conv => lhs; whnf)) ?_
   refine vm e0_26 <| vm e10_26 <| V (run_cut (hs.hp hH71) underlying22 sizeOf27 rfl rfl (by omega)) <| RL.rowcopy rfl (row_copy0 (c := k.toNat) hH71 (i := 0) rfl (by omega) underlying22 rfl rfl rfl ((hs.hp hH71).cut _ (by omega)) (by show min _ _ = _; omega) (fun u hu => vals_one l u (List.mem_of_mem_take hu))) <| fun w72 hH73 => ?_
   simp only [z2] at hH73
   refine RL.nil <| SR <| ?_
   refine V (run_move (by conv => lhs; whnf)) ?_
   refine vm e10_26 <| V (run_ldA (cs := valL _) underlying27 rfl rfl e7_26 (rangeAt_cells (hH73.blk (i := 1) rfl))) <| V (run_indexAddrS (hH73.sl (i := 0) rfl) underlying22 sizeOf27 rfl rfl (by omega)) <| RL.rowst hH73 (i := 0) rfl (by omega) rfl (new := valL ⟨f, e⟩) rfl (fun u hu => valL_one _ u (by simpa using hu)) (by rw [valL_len]; rfl) (by rw [valL_len]; omega) <| fun w74 hH75 => ?_
   simp only [z2] at hH75
   refine RL.nil <| CW.seq <| CW.regionS (by kernel_rfl) hH75 (sQ sR) <| fun w76 hH77 => have zh77 := hH77.sub (sQ sR); ?_
   refine AQ 0 rfl zh77 (run_move (by conv => lhs; whnf)) ?_
   refine AQ 1 rfl zh77 (run_move e10_26) <| AQ 2 rfl zh77 (run_add rfl rfl (by omega)) <| AQ 4 rfl zh77 (run_move e0_26) <| AQ 5 rfl zh77 (run_move e10_26) <| AN.two 3 6 (by kernel_rfl) ?_ ?_
   ·refine AO.read rfl gnone rfl hH77 (sQ sR) (run_from (hH77.sl (i := 0) rfl) underlying22 sizeOf27 rfl rfl (by omega)) <| A1 6 <| AO.read rfl gnone rfl hH77 (sQ sR) (run_from (hs.hp hH77) underlying22 sizeOf27 rfl rfl (by omega)) <| A1 7 <| AO.rowcopy rfl gnone rfl (row_copyF (c := l.length - k.toNat) (o := (k + 1).toNat) hH77 (i := 0) rfl (by omega) underlying22 rfl rfl rfl (Sl.fr (hs.hp hH77) k.toNat (by omega)) (by show min _ _ = _; omega) (by omega) (fun u hu => vals_one l u (List.mem_of_mem_drop hu))) (fun w' h => h.sub (sQ sR)) <| fun w84 hH85 => ?_
    simp only [z2] at hH85
    refine AD <| SR <| ?_
    refine V (run_move (by conv => lhs; whnf)) ?_
    refine V (run_assign (by conv => lhs; whnf)) ?_
    refine RL.nil <| CW.ret <| ?_
    obtain ⟨Z86, hz87, hv88, -⟩ := hH85.frz (K)
    have hH89 : Hp _ w84 (_ :: _ :: Z86) := hz87.zin0 (L := [_, _])
    refine out1 Tryd.results8 (v := (.slice (some ⟨b70, 0, none⟩) (l.length + 1) (l.length + 1))) rfl ⟨Z86, (hH89.sub (sQ (sQ sR))), ?_⟩
    exact with_made2 (by omega) (spot_e (by omega) hg) h0 hk hv88
   ·refine AO.read rfl gnone rfl hH77 (sQ sR) (run_from (hs.hp hH77) underlying22 sizeOf27 rfl rfl (by omega)) <| A1 3 <| AO.read rfl gnone rfl hH77 (sQ sR) (run_from (hH77.sl (i := 0) rfl) underlying22 sizeOf27 rfl rfl (by omega)) <| A1 7 <| AO.rowcopy rfl gnone rfl (row_copyF (c := l.length - k.toNat) (o := (k + 1).toNat) hH77 (i := 0) rfl (by omega) underlying22 rfl rfl rfl (Sl.fr (hs.hp hH77) k.toNat (by omega)) (by show min _ _ = _; omega) (by omega) (fun u hu => vals_one l u (List.mem_of_mem_drop hu))) (fun w' h => h.sub (sQ sR)) <| fun w96 hH97 => ?_
    simp only [z2] at hH97
    refine AD <| SR <| ?_
    refine V (run_move (by conv => lhs; whnf)) ?_
    refine V (run_assign (by conv => lhs; whnf)) ?_
    refine RL.nil <| CW.ret <| ?_
    obtain ⟨Z98, hz99, hv100, -⟩ := hH97.frz (K)
    have hH101 : Hp _ w96 (_ :: _ :: Z98) := hz99.zin0 (L := [_, _])
    refine out1 Tryd.results8 (v := (.slice (some ⟨b70, 0, none⟩) (l.length + 1) (l.length + 1))) rfl ⟨Z98, (hH101.sub (sQ (sQ sR))), ?_⟩
    exact with_made2 (by omega) (spot_e (by omega) hg) h0 hk hv100
set_option maxHeartbeats 4000000 in
theorem c_clearancelaw18_alive  (w : World) (hT : Tab w) : Calls Tryd.prog 5 #[] w (Pure (B true) w) := by
 refine enter Tryd.func5 rfl Tryd.ntmps5 rfl <| have hH := Hp.start w; SR <| va (v := B false) rfl <| RL.nil <| SR <| RL.new rfl hH (f := fun b => (.slice (some ⟨b, 0, none⟩) 2 2)) (run_mkL underlying39 rfl rfl (sz := 1) (vs := [.string ⟨#[108, 111]⟩, .string ⟨#[104, 105]⟩]) rfl rfl (by decide) (by decide) rfl rfl) <| fun b3 w1 hH2 => ?_
 (try simp only [clX] at hH2)
 have hH4 : Hp _ w1 ([Ent.blk b3 (.cells (txL exLH).toArray 9 (0, 0))]) := Hp.zin0 (Z := [Ent.blk b3 (.cells (txL exLH).toArray 9 (0, 0))]) (L := []) hH2
 have hv5 : SlV (Kz (Kw w) [Ent.blk b3 (.cells (txL exLH).toArray 9 (0, 0))]) (.slice (some ⟨b3, 0, none⟩) 2 2) 1 2 (txL exLH) := slv_blk (List.mem_cons_self ..) rfl (by simp [maxLen])
 refine V (run_bld (vs := [(0, I 1), (1, .slice (some ⟨b3, 0, none⟩) 2 2)]) rfl (built_fac 1 b3 2 exLH)) <| RL.new rfl hH4 (f := fun b => (.slice (some ⟨b, 0, none⟩) 1 1)) (run_mkFacs underlying45 rfl rfl rfl (l := [_]) rfl (by decide) (by decide) rfl) <| fun b8 w6 hH7 => have hH9 : Hp _ w6 (([Ent.blk b8 (.cells ([(⟨1, .slice (some ⟨b3, 0, none⟩) 2 2, exLH, Rl.none⟩ : Fac)].flatMap facL).toArray 44 (0, 0))] ++ [Ent.blk b3 (.cells (txL exLH).toArray 9 (0, 0))])) := Hp.zin (Z := [Ent.blk b8 (.cells ([(⟨1, .slice (some ⟨b3, 0, none⟩) 2 2, exLH, Rl.none⟩ : Fac)].flatMap facL).toArray 44 (0, 0))]) (L := []) (L' := [Ent.blk b3 (.cells (txL exLH).toArray 9 (0, 0))]) hH7; have hv10 : SlV (Kz (Kw w) [Ent.blk b8 (.cells ([(⟨1, .slice (some ⟨b3, 0, none⟩) 2 2, exLH, Rl.none⟩ : Fac)].flatMap facL).toArray 44 (0, 0))]) (.slice (some ⟨b8, 0, none⟩) 1 1) 67 1 ([(⟨1, .slice (some ⟨b3, 0, none⟩) 2 2, exLH, Rl.none⟩ : Fac)].flatMap facL) := slv_blk (List.mem_cons_self ..) (flat_length facL_len _) (by simp [maxLen]); V (run_bld (vs := [(1, .slice (some ⟨b8, 0, none⟩) 1 1)]) rfl (built_shp1 rfl)) <| V (run_bld (vs := [(0, S ⟨#[107]⟩), (1, .agg (shpC (⟨false, .slice (some ⟨b8, 0, none⟩) 1 1, [(⟨1, .slice (some ⟨b3, 0, none⟩) 2 2, exLH, Rl.none⟩ : Fac)]⟩ : Shp)))]) rfl (built_lat _ _)) <| RL.new rfl hH9 (f := fun b => (.slice (some ⟨b, 0, none⟩) 1 1)) (run_mkRecs latL_len underlying50 rfl rfl rfl (l := [_]) rfl (by decide) (by decide) rfl) <| fun b13 w11 hH12 => have hH14 : Hp _ w11 (([Ent.blk b13 (.cells ([(⟨⟨#[107]⟩, (⟨false, .slice (some ⟨b8, 0, none⟩) 1 1, [(⟨1, .slice (some ⟨b3, 0, none⟩) 2 2, exLH, Rl.none⟩ : Fac)]⟩ : Shp)⟩ : LatR)].flatMap latL).toArray 49 (0, 0))] ++ ([Ent.blk b8 (.cells ([(⟨1, .slice (some ⟨b3, 0, none⟩) 2 2, exLH, Rl.none⟩ : Fac)].flatMap facL).toArray 44 (0, 0))] ++ [Ent.blk b3 (.cells (txL exLH).toArray 9 (0, 0))]))) := Hp.zin (Z := [Ent.blk b13 (.cells ([(⟨⟨#[107]⟩, (⟨false, .slice (some ⟨b8, 0, none⟩) 1 1, [(⟨1, .slice (some ⟨b3, 0, none⟩) 2 2, exLH, Rl.none⟩ : Fac)]⟩ : Shp)⟩ : LatR)].flatMap latL).toArray 49 (0, 0))]) (L := []) (L' := ([Ent.blk b8 (.cells ([(⟨1, .slice (some ⟨b3, 0, none⟩) 2 2, exLH, Rl.none⟩ : Fac)].flatMap facL).toArray 44 (0, 0))] ++ [Ent.blk b3 (.cells (txL exLH).toArray 9 (0, 0))])) hH12; have hv15 : SlV (Kz (Kw w) [Ent.blk b13 (.cells ([(⟨⟨#[107]⟩, (⟨false, .slice (some ⟨b8, 0, none⟩) 1 1, [(⟨1, .slice (some ⟨b3, 0, none⟩) 2 2, exLH, Rl.none⟩ : Fac)]⟩ : Shp)⟩ : LatR)].flatMap latL).toArray 49 (0, 0))]) (.slice (some ⟨b13, 0, none⟩) 1 1) 3 1 ([(⟨⟨#[107]⟩, (⟨false, .slice (some ⟨b8, 0, none⟩) 1 1, [(⟨1, .slice (some ⟨b3, 0, none⟩) 2 2, exLH, Rl.none⟩ : Fac)]⟩ : Shp)⟩ : LatR)].flatMap latL) := slv_blk (List.mem_cons_self ..) (flat_length latL_len _) (by simp [maxLen]); V (run_bld (vs := [(0, .string ⟨#[120]⟩), (1, I 1)]) rfl (built_varL_0_1 _ _)) <| V (run_bld (vs := [(0, .string ⟨#[114]⟩), (1, I 2)]) rfl (built_varL_0_1 _ _)) <| RL.new rfl hH14 (f := fun b => (.slice (some ⟨b, 0, none⟩) 2 2)) (run_mkRecs varL_len underlying53 rfl rfl rfl (l := [_, _]) rfl (by decide) (by decide) rfl) <| fun b18 w16 hH17 => have hH19 : Hp _ w16 (([Ent.blk b18 (.cells (([⟨⟨#[120]⟩, 1, 0⟩, ⟨⟨#[114]⟩, 2, 0⟩] : List VarR).flatMap varL).toArray 52 (0, 0))] ++ ([Ent.blk b13 (.cells ([(⟨⟨#[107]⟩, (⟨false, .slice (some ⟨b8, 0, none⟩) 1 1, [(⟨1, .slice (some ⟨b3, 0, none⟩) 2 2, exLH, Rl.none⟩ : Fac)]⟩ : Shp)⟩ : LatR)].flatMap latL).toArray 49 (0, 0))] ++ ([Ent.blk b8 (.cells ([(⟨1, .slice (some ⟨b3, 0, none⟩) 2 2, exLH, Rl.none⟩ : Fac)].flatMap facL).toArray 44 (0, 0))] ++ [Ent.blk b3 (.cells (txL exLH).toArray 9 (0, 0))])))) := Hp.zin (Z := [Ent.blk b18 (.cells (([⟨⟨#[120]⟩, 1, 0⟩, ⟨⟨#[114]⟩, 2, 0⟩] : List VarR).flatMap varL).toArray 52 (0, 0))]) (L := []) (L' := ([Ent.blk b13 (.cells ([(⟨⟨#[107]⟩, (⟨false, .slice (some ⟨b8, 0, none⟩) 1 1, [(⟨1, .slice (some ⟨b3, 0, none⟩) 2 2, exLH, Rl.none⟩ : Fac)]⟩ : Shp)⟩ : LatR)].flatMap latL).toArray 49 (0, 0))] ++ ([Ent.blk b8 (.cells ([(⟨1, .slice (some ⟨b3, 0, none⟩) 2 2, exLH, Rl.none⟩ : Fac)].flatMap facL).toArray 44 (0, 0))] ++ [Ent.blk b3 (.cells (txL exLH).toArray 9 (0, 0))]))) hH17; have hv20 : SlV (Kz (Kw w) [Ent.blk b18 (.cells (([⟨⟨#[120]⟩, 1, 0⟩, ⟨⟨#[114]⟩, 2, 0⟩] : List VarR).flatMap varL).toArray 52 (0, 0))]) (.slice (some ⟨b18, 0, none⟩) 2 2) 3 2 (([⟨⟨#[120]⟩, 1, 0⟩, ⟨⟨#[114]⟩, 2, 0⟩] : List VarR).flatMap varL) := slv_blk (List.mem_cons_self ..) (flat_length varL_len _) (by simp [maxLen]); V (run_bld (vs := [(0, .slice (some ⟨b13, 0, none⟩) 1 1), (1, .slice (some ⟨b18, 0, none⟩) 2 2)]) rfl (built_scpV rfl rfl)) <| have hs21 : ScpV (Kz (Kw w) ([Ent.blk b18 (.cells (([⟨⟨#[120]⟩, 1, 0⟩, ⟨⟨#[114]⟩, 2, 0⟩] : List VarR).flatMap varL).toArray 52 (0, 0))] ++ ([Ent.blk b13 (.cells ([(⟨⟨#[107]⟩, (⟨false, .slice (some ⟨b8, 0, none⟩) 1 1, [(⟨1, .slice (some ⟨b3, 0, none⟩) 2 2, exLH, Rl.none⟩ : Fac)]⟩ : Shp)⟩ : LatR)].flatMap latL).toArray 49 (0, 0))] ++ ([Ent.blk b8 (.cells ([(⟨1, .slice (some ⟨b3, 0, none⟩) 2 2, exLH, Rl.none⟩ : Fac)].flatMap facL).toArray 44 (0, 0))] ++ [Ent.blk b3 (.cells (txL exLH).toArray 9 (0, 0))])))) (⟨.slice (some ⟨b13, 0, none⟩) 1 1, [(⟨⟨#[107]⟩, (⟨false, .slice (some ⟨b8, 0, none⟩) 1 1, [(⟨1, .slice (some ⟨b3, 0, none⟩) 2 2, exLH, Rl.none⟩ : Fac)]⟩ : Shp)⟩ : LatR)], .slice (some ⟨b18, 0, none⟩) 2 2, [⟨⟨#[120]⟩, 1, 0⟩, ⟨⟨#[114]⟩, 2, 0⟩]⟩ : Scp) := ⟨(hv15.mono (Le.zz (fun x hx => (List.mem_append_right _ (List.mem_append_left _ hx))))), (hv20.mono (Le.zz (fun x hx => (List.mem_append_left _ hx)))), fun x hx => by rw [List.mem_singleton.1 hx]; exact ⟨(hv10.mono (Le.zz (fun x hx => (List.mem_append_right _ (List.mem_append_right _ (List.mem_append_left _ hx)))))), fun y hy => by rw [List.mem_singleton.1 hy]; exact ⟨(hv5.mono (Le.zz (fun x hx => (List.mem_append_right _ (List.mem_append_right _ (List.mem_append_right _ hx))))))⟩⟩⟩; RL.new rfl hH19 (f := fun b => (.pointer (some ⟨b, 0, none⟩))) (run_alloc Tryd.zeroValue55) <| fun b24 w22 hH23 => RL.set hH23 (i := 0) rfl (run_stW (c' := (scpL (⟨.slice (some ⟨b13, 0, none⟩) 1 1, [(⟨⟨#[107]⟩, (⟨false, .slice (some ⟨b8, 0, none⟩) 1 1, [(⟨1, .slice (some ⟨b3, 0, none⟩) 2 2, exLH, Rl.none⟩ : Fac)]⟩ : Shp)⟩ : LatR)], .slice (some ⟨b18, 0, none⟩) 2 2, [⟨⟨#[120]⟩, 1, 0⟩, ⟨⟨#[114]⟩, 2, 0⟩]⟩ : Scp)).toArray) rfl rfl rfl (scpL_one hs21) (hH23.blk (i := 0) rfl) rfl) <| fun w25 hH26 => ?_
 simp only [z2] at hH26
 refine RL.nil <| SR <| V (run_bld (vs := [(0, U 1#64)]) rfl (built_el1 _)) <| V (run_bld (vs := []) rfl (built_el0)) <| RL.new rfl hH26 (f := fun b => (.slice (some ⟨b, 0, none⟩) 2 2)) (run_mkEl2 underlying30 rfl rfl rfl rfl rfl) <| fun b29 w27 hH28 => have hH30 : Hp _ w27 (_ :: ([Ent.blk b29 (.cells (([putE el0 0 1#64, el0] : List El).flatMap elL).toArray 25 (0, 0))] ++ ([Ent.blk b18 (.cells (([⟨⟨#[120]⟩, 1, 0⟩, ⟨⟨#[114]⟩, 2, 0⟩] : List VarR).flatMap varL).toArray 52 (0, 0))] ++ ([Ent.blk b13 (.cells ([(⟨⟨#[107]⟩, (⟨false, .slice (some ⟨b8, 0, none⟩) 1 1, [(⟨1, .slice (some ⟨b3, 0, none⟩) 2 2, exLH, Rl.none⟩ : Fac)]⟩ : Shp)⟩ : LatR)].flatMap latL).toArray 49 (0, 0))] ++ ([Ent.blk b8 (.cells ([(⟨1, .slice (some ⟨b3, 0, none⟩) 2 2, exLH, Rl.none⟩ : Fac)].flatMap facL).toArray 44 (0, 0))] ++ [Ent.blk b3 (.cells (txL exLH).toArray 9 (0, 0))]))))) := Hp.zin (Z := [Ent.blk b29 (.cells (([putE el0 0 1#64, el0] : List El).flatMap elL).toArray 25 (0, 0))]) (L := [_]) (L' := ([Ent.blk b18 (.cells (([⟨⟨#[120]⟩, 1, 0⟩, ⟨⟨#[114]⟩, 2, 0⟩] : List VarR).flatMap varL).toArray 52 (0, 0))] ++ ([Ent.blk b13 (.cells ([(⟨⟨#[107]⟩, (⟨false, .slice (some ⟨b8, 0, none⟩) 1 1, [(⟨1, .slice (some ⟨b3, 0, none⟩) 2 2, exLH, Rl.none⟩ : Fac)]⟩ : Shp)⟩ : LatR)].flatMap latL).toArray 49 (0, 0))] ++ ([Ent.blk b8 (.cells ([(⟨1, .slice (some ⟨b3, 0, none⟩) 2 2, exLH, Rl.none⟩ : Fac)].flatMap facL).toArray 44 (0, 0))] ++ [Ent.blk b3 (.cells (txL exLH).toArray 9 (0, 0))])))) hH28; have hv31 : SlV (Kz (Kw w) [Ent.blk b29 (.cells (([putE el0 0 1#64, el0] : List El).flatMap elL).toArray 25 (0, 0))]) (.slice (some ⟨b29, 0, none⟩) 2 2) 8 2 (([putE el0 0 1#64, el0] : List El).flatMap elL) := slv_blk (List.mem_cons_self ..) (flat_length elL_len _) (by simp [maxLen]); V (run_bld (vs := []) rfl (built_el0)) <| RL.callF rfl hH30 (c_assign_With (Kw w) _ [] ⟨#[102]⟩ el0 (by decide) _ hH30.kw (Sl.nil _ _)) (run_call3 call8 (show _ = Value.slice none 0 0 from rfl) (show _ = Value.string ⟨#[102]⟩ from rfl) rfl) <| fun v34 w35 Z37 hH36 hp38 => have hH39 : Hp _ w35 (_ :: (Z37 ++ ([Ent.blk b29 (.cells (([putE el0 0 1#64, el0] : List El).flatMap elL).toArray 25 (0, 0))] ++ ([Ent.blk b18 (.cells (([⟨⟨#[120]⟩, 1, 0⟩, ⟨⟨#[114]⟩, 2, 0⟩] : List VarR).flatMap varL).toArray 52 (0, 0))] ++ ([Ent.blk b13 (.cells ([(⟨⟨#[107]⟩, (⟨false, .slice (some ⟨b8, 0, none⟩) 1 1, [(⟨1, .slice (some ⟨b3, 0, none⟩) 2 2, exLH, Rl.none⟩ : Fac)]⟩ : Shp)⟩ : LatR)].flatMap latL).toArray 49 (0, 0))] ++ ([Ent.blk b8 (.cells ([(⟨1, .slice (some ⟨b3, 0, none⟩) 2 2, exLH, Rl.none⟩ : Fac)].flatMap facL).toArray 44 (0, 0))] ++ [Ent.blk b3 (.cells (txL exLH).toArray 9 (0, 0))])))))) := hH36.zin (L := [_]) (L' := ([Ent.blk b29 (.cells (([putE el0 0 1#64, el0] : List El).flatMap elL).toArray 25 (0, 0))] ++ ([Ent.blk b18 (.cells (([⟨⟨#[120]⟩, 1, 0⟩, ⟨⟨#[114]⟩, 2, 0⟩] : List VarR).flatMap varL).toArray 52 (0, 0))] ++ ([Ent.blk b13 (.cells ([(⟨⟨#[107]⟩, (⟨false, .slice (some ⟨b8, 0, none⟩) 1 1, [(⟨1, .slice (some ⟨b3, 0, none⟩) 2 2, exLH, Rl.none⟩ : Fac)]⟩ : Shp)⟩ : LatR)].flatMap latL).toArray 49 (0, 0))] ++ ([Ent.blk b8 (.cells ([(⟨1, .slice (some ⟨b3, 0, none⟩) 2 2, exLH, Rl.none⟩ : Fac)].flatMap facL).toArray 44 (0, 0))] ++ [Ent.blk b3 (.cells (txL exLH).toArray 9 (0, 0))]))))); have hv40 := hp38; RL.new rfl hH39 (f := fun b => (.slice (some ⟨b, 0, none⟩) 2 2)) (run_mkSl2 (v := .slice none 0 0) (u := v34) rfl (one_slv hv40).2 underlying29 rfl rfl rfl rfl rfl) <| fun b43 w41 hH42 => have hH44 : Hp _ w41 (_ :: ([Ent.blk b43 (.cells (([.slice none 0 0, v34] : List Value)).toArray 22 (0, 0))] ++ (Z37 ++ ([Ent.blk b29 (.cells (([putE el0 0 1#64, el0] : List El).flatMap elL).toArray 25 (0, 0))] ++ ([Ent.blk b18 (.cells (([⟨⟨#[120]⟩, 1, 0⟩, ⟨⟨#[114]⟩, 2, 0⟩] : List VarR).flatMap varL).toArray 52 (0, 0))] ++ ([Ent.blk b13 (.cells ([(⟨⟨#[107]⟩, (⟨false, .slice (some ⟨b8, 0, none⟩) 1 1, [(⟨1, .slice (some ⟨b3, 0, none⟩) 2 2, exLH, Rl.none⟩ : Fac)]⟩ : Shp)⟩ : LatR)].flatMap latL).toArray 49 (0, 0))] ++ ([Ent.blk b8 (.cells ([(⟨1, .slice (some ⟨b3, 0, none⟩) 2 2, exLH, Rl.none⟩ : Fac)].flatMap facL).toArray 44 (0, 0))] ++ [Ent.blk b3 (.cells (txL exLH).toArray 9 (0, 0))]))))))) := Hp.zin (Z := [Ent.blk b43 (.cells (([.slice none 0 0, v34] : List Value)).toArray 22 (0, 0))]) (L := [_]) (L' := (Z37 ++ ([Ent.blk b29 (.cells (([putE el0 0 1#64, el0] : List El).flatMap elL).toArray 25 (0, 0))] ++ ([Ent.blk b18 (.cells (([⟨⟨#[120]⟩, 1, 0⟩, ⟨⟨#[114]⟩, 2, 0⟩] : List VarR).flatMap varL).toArray 52 (0, 0))] ++ ([Ent.blk b13 (.cells ([(⟨⟨#[107]⟩, (⟨false, .slice (some ⟨b8, 0, none⟩) 1 1, [(⟨1, .slice (some ⟨b3, 0, none⟩) 2 2, exLH, Rl.none⟩ : Fac)]⟩ : Shp)⟩ : LatR)].flatMap latL).toArray 49 (0, 0))] ++ ([Ent.blk b8 (.cells ([(⟨1, .slice (some ⟨b3, 0, none⟩) 2 2, exLH, Rl.none⟩ : Fac)].flatMap facL).toArray 44 (0, 0))] ++ [Ent.blk b3 (.cells (txL exLH).toArray 9 (0, 0))])))))) hH42; have hv45 : SlV (Kz (Kw w) [Ent.blk b43 (.cells (([.slice none 0 0, v34] : List Value)).toArray 22 (0, 0))]) (.slice (some ⟨b43, 0, none⟩) 2 2) 1 2 (([.slice none 0 0, v34] : List Value)) := slv_blk (List.mem_cons_self ..) rfl (by simp [maxLen]); V (run_bld (vs := [(0, .slice (some ⟨b29, 0, none⟩) 2 2), (1, .slice (some ⟨b43, 0, none⟩) 2 2)]) rfl (built_asgV rfl rfl)) <| have ha46 : AsgV (Kz (Kw w) ([Ent.blk b43 (.cells (([.slice none 0 0, v34] : List Value)).toArray 22 (0, 0))] ++ (Z37 ++ ([Ent.blk b29 (.cells (([putE el0 0 1#64, el0] : List El).flatMap elL).toArray 25 (0, 0))] ++ ([Ent.blk b18 (.cells (([⟨⟨#[120]⟩, 1, 0⟩, ⟨⟨#[114]⟩, 2, 0⟩] : List VarR).flatMap varL).toArray 52 (0, 0))] ++ ([Ent.blk b13 (.cells ([(⟨⟨#[107]⟩, (⟨false, .slice (some ⟨b8, 0, none⟩) 1 1, [(⟨1, .slice (some ⟨b3, 0, none⟩) 2 2, exLH, Rl.none⟩ : Fac)]⟩ : Shp)⟩ : LatR)].flatMap latL).toArray 49 (0, 0))] ++ ([Ent.blk b8 (.cells ([(⟨1, .slice (some ⟨b3, 0, none⟩) 2 2, exLH, Rl.none⟩ : Fac)].flatMap facL).toArray 44 (0, 0))] ++ [Ent.blk b3 (.cells (txL exLH).toArray 9 (0, 0))]))))))) (⟨.slice (some ⟨b29, 0, none⟩) 2 2, [putE el0 0 1#64, el0], .slice (some ⟨b43, 0, none⟩) 2 2, [vr0, (⟨v34, withF [] ⟨#[102]⟩ el0⟩ : VrR)]⟩ : Asg) := ⟨(hv31.mono (Le.zz (fun x hx => (List.mem_append_right _ (List.mem_append_right _ (List.mem_append_left _ hx)))))), (hv45.mono (Le.zz (fun x hx => (List.mem_append_left _ hx)))), ((RowsV.nil _).snoc (r := vr0) (SlV.nil _ _)).snoc (r := (⟨v34, withF [] ⟨#[102]⟩ el0⟩ : VrR)) (hv40.mono (Le.zz (fun x hx => (List.mem_append_right _ (List.mem_append_left _ hx)))))⟩; have hexS : ((⟨.slice (some ⟨b13, 0, none⟩) 1 1, [(⟨⟨#[107]⟩, (⟨false, .slice (some ⟨b8, 0, none⟩) 1 1, [(⟨1, .slice (some ⟨b3, 0, none⟩) 2 2, exLH, Rl.none⟩ : Fac)]⟩ : Shp)⟩ : LatR)], .slice (some ⟨b18, 0, none⟩) 2 2, [⟨⟨#[120]⟩, 1, 0⟩, ⟨⟨#[114]⟩, 2, 0⟩]⟩ : Scp)).sc = exS := rfl; ?_
 have hexA : ((⟨.slice (some ⟨b29, 0, none⟩) 2 2, [putE el0 0 1#64, el0], .slice (some ⟨b43, 0, none⟩) 2 2, [vr0, (⟨v34, withF [] ⟨#[102]⟩ el0⟩ : VrR)]⟩ : Asg)).as = exA := by
  show (⟨_, [_, withF [] ⟨#[102]⟩ el0]⟩ : As) = _
  rw [exA_W]; rfl
 refine RL.new rfl hH44 (f := fun b => (.pointer (some ⟨b, 0, none⟩))) (run_alloc zero_asg) <| fun b49 w47 hH48 => RL.set hH48 (i := 0) rfl (run_stW (c' := (asgL (⟨.slice (some ⟨b29, 0, none⟩) 2 2, [putE el0 0 1#64, el0], .slice (some ⟨b43, 0, none⟩) 2 2, [vr0, (⟨v34, withF [] ⟨#[102]⟩ el0⟩ : VrR)]⟩ : Asg)).toArray) rfl rfl rfl (asgL_one ha46) (hH48.blk (i := 0) rfl) rfl) <| fun w50 hH51 => ?_
 simp only [z2] at hH51
 refine RL.nil <| CW.seq <| CW.regionD (by kernel_rfl) hH51 <| fun w52 hH53 => AT 0 rfl (hH53.sub sR) (fun w hS => run_ldA (cs := scpL _) underlying55 rfl rfl rfl (rangeAt_cells (hS.blk (i := 1) rfl))) <| AT 1 rfl (hH53.sub sR) (fun w hS => run_ldA (cs := asgL _) underlying32 rfl rfl rfl (rangeAt_cells (hS.blk (i := 0) rfl))) <| A1 2 <| AO.callP rfl gnone rfl hH53 sR (c_assign_Text _ _ (by show 2 ≤ _; decide) (fun v hv => by rcases List.mem_cons.1 hv with rfl | hv; (exact (by decide)); (rw [List.mem_singleton.1 hv]; decide)) (fun r hr => by rcases List.mem_cons.1 hr with rfl | hr; (exact (by decide)); (rw [List.mem_singleton.1 hr, exA_W]; exact (by decide : 1 ≤ 200))) _ (hs21.mono (hH53.kz (Le.refl _) (fun x hx => (mT (mT (List.mem_append_right _ (List.mem_append_right _ (List.mem_append_right _ hx)))))))) (ha46.mono (hH53.kz (Le.refl _) (fun x hx => (mT (mT hx))))) (hT.hp hH53)) (run_call2 call11 rfl rfl) <| fun w54 hH55 => have zh55 := hH55.sub sR; AQ 3 rfl zh55 (run_eqlS rfl rfl) <| AQ 4 rfl zh55 (mV (B _) rfl) <| AG 5 rfl rfl (bT ((by rw [hexS, hexA]; exact exA_T))) (hH55.sub sR) (fun w hS => run_ldA (cs := scpL _) underlying55 rfl rfl rfl (rangeAt_cells (hS.blk (i := 1) rfl))) <| AG 6 rfl rfl (bT ((by rw [hexS, hexA]; exact exA_T))) (hH55.sub sR) (fun w hS => run_ldA (cs := asgL _) underlying32 rfl rfl rfl (rangeAt_cells (hS.blk (i := 0) rfl))) <| A1 7 <| AO.callP rfl (gsome rfl (bT ((by rw [hexS, hexA]; exact exA_T)))) rfl hH55 sR (c_assign_Right _ _ _ (hs21.mono (hH55.kz (Le.refl _) (fun x hx => (mT (mT (List.mem_append_right _ (List.mem_append_right _ (List.mem_append_right _ hx)))))))) (ha46.mono (hH55.kz (Le.refl _) (fun x hx => (mT (mT hx))))) (hT.hp hH55)) (run_call2 call12 rfl rfl) <| fun w57 hH58 => have zh58 := hH58.sub sR; AQ 8 rfl zh58 (run_pickT (bT ((by rw [hexS, hexA]; exact exA_T))) (v := B _) rfl) <| AQ 9 rfl zh58 (mV (B _) rfl) <| AG 10 rfl rfl (bR (c := true) ((by rw [hexS, hexA]; exact exA_R))) (hH58.sub sR) (fun w hS => run_ldA (cs := scpL _) underlying55 rfl rfl rfl (rangeAt_cells (hS.blk (i := 1) rfl))) <| AG 12 rfl rfl (bR (c := true) ((by rw [hexS, hexA]; exact exA_R))) (hH58.sub sR) (fun w hS => run_ldA (cs := asgL _) underlying32 rfl rfl rfl (rangeAt_cells (hS.blk (i := 0) rfl))) <| A1 11 <| AO.callF rfl (gsome rfl (bR (c := true) ((by rw [hexS, hexA]; exact exA_R)))) rfl hH58 sR (c_assign_Least (Kz (Kw w) ([Ent.blk b18 (.cells (([⟨⟨#[120]⟩, 1, 0⟩, ⟨⟨#[114]⟩, 2, 0⟩] : List VarR).flatMap varL).toArray 52 (0, 0))] ++ ([Ent.blk b13 (.cells ([(⟨⟨#[107]⟩, (⟨false, .slice (some ⟨b8, 0, none⟩) 1 1, [(⟨1, .slice (some ⟨b3, 0, none⟩) 2 2, exLH, Rl.none⟩ : Fac)]⟩ : Shp)⟩ : LatR)].flatMap latL).toArray 49 (0, 0))] ++ ([Ent.blk b8 (.cells ([(⟨1, .slice (some ⟨b3, 0, none⟩) 2 2, exLH, Rl.none⟩ : Fac)].flatMap facL).toArray 44 (0, 0))] ++ [Ent.blk b3 (.cells (txL exLH).toArray 9 (0, 0))])))) (⟨.slice (some ⟨b13, 0, none⟩) 1 1, [(⟨⟨#[107]⟩, (⟨false, .slice (some ⟨b8, 0, none⟩) 1 1, [(⟨1, .slice (some ⟨b3, 0, none⟩) 2 2, exLH, Rl.none⟩ : Fac)]⟩ : Shp)⟩ : LatR)], .slice (some ⟨b18, 0, none⟩) 2 2, [⟨⟨#[120]⟩, 1, 0⟩, ⟨⟨#[114]⟩, 2, 0⟩]⟩ : Scp) (by show 2 ≤ _; decide) _ (hH58.kz (Le.refl _) (fun x hx => (mT (mT (List.mem_append_right _ (List.mem_append_right _ (List.mem_append_right _ hx))))))) hs21 (hT.hp hH58)) (run_call1 call14 rfl) <| fun v62 w63 Z65 hH64 hp66 => have hH67 : Hp _ w63 (_ :: _ :: (Z65 ++ ([Ent.blk b43 (.cells (([.slice none 0 0, v34] : List Value)).toArray 22 (0, 0))] ++ (Z37 ++ ([Ent.blk b29 (.cells (([putE el0 0 1#64, el0] : List El).flatMap elL).toArray 25 (0, 0))] ++ ([Ent.blk b18 (.cells (([⟨⟨#[120]⟩, 1, 0⟩, ⟨⟨#[114]⟩, 2, 0⟩] : List VarR).flatMap varL).toArray 52 (0, 0))] ++ ([Ent.blk b13 (.cells ([(⟨⟨#[107]⟩, (⟨false, .slice (some ⟨b8, 0, none⟩) 1 1, [(⟨1, .slice (some ⟨b3, 0, none⟩) 2 2, exLH, Rl.none⟩ : Fac)]⟩ : Shp)⟩ : LatR)].flatMap latL).toArray 49 (0, 0))] ++ ([Ent.blk b8 (.cells ([(⟨1, .slice (some ⟨b3, 0, none⟩) 2 2, exLH, Rl.none⟩ : Fac)].flatMap facL).toArray 44 (0, 0))] ++ [Ent.blk b3 (.cells (txL exLH).toArray 9 (0, 0))])))))))) := hH64.zin (L := [_, _]) (L' := ([Ent.blk b43 (.cells (([.slice none 0 0, v34] : List Value)).toArray 22 (0, 0))] ++ (Z37 ++ ([Ent.blk b29 (.cells (([putE el0 0 1#64, el0] : List El).flatMap elL).toArray 25 (0, 0))] ++ ([Ent.blk b18 (.cells (([⟨⟨#[120]⟩, 1, 0⟩, ⟨⟨#[114]⟩, 2, 0⟩] : List VarR).flatMap varL).toArray 52 (0, 0))] ++ ([Ent.blk b13 (.cells ([(⟨⟨#[107]⟩, (⟨false, .slice (some ⟨b8, 0, none⟩) 1 1, [(⟨1, .slice (some ⟨b3, 0, none⟩) 2 2, exLH, Rl.none⟩ : Fac)]⟩ : Shp)⟩ : LatR)].flatMap latL).toArray 49 (0, 0))] ++ ([Ent.blk b8 (.cells ([(⟨1, .slice (some ⟨b3, 0, none⟩) 2 2, exLH, Rl.none⟩ : Fac)].flatMap facL).toArray 44 (0, 0))] ++ [Ent.blk b3 (.cells (txL exLH).toArray 9 (0, 0))]))))))); ?_
 obtain ⟨n68, rfl, nd69, nv70⟩ := hp66
 refine A1 13 <| AO.callP rfl (gsome rfl (bR (c := true) ((by rw [hexS, hexA]; exact exA_R)))) rfl hH67 (sP (sP (sA sR))) (c_assign_Leq _ _ _ (nv70.mono (Le.kk.trans (hH67.kz (Le.refl _) fun x hx => (List.mem_append.1 hx).elim ((fun x hx => (mT (mT (List.mem_append_left _ hx)))) x) ((fun x hx => (mT (mT (List.mem_append_right _ (List.mem_append_right _ (List.mem_append_right _ (List.mem_append_right _ hx))))))) x)))) (ha46.mono (hH67.kz (Le.refl _) (fun x hx => (mT (mT (List.mem_append_right _ hx))))))) (run_call2 call13 rfl rfl) <| fun w71 hH72 => have zh72 := hH72.sub (sP (sP (sA sR))); AQ 14 rfl zh72 (run_pickT (bR (c := true) ((by rw [hexS, hexA]; exact exA_R))) (v := B _) rfl) <| AQ 15 rfl zh72 (mV (B _) rfl) <| AG 16 rfl rfl (bR (c := true) ((by rw [nd69, hexS, hexA]; exact exA_L))) (hH72.sub (sP (sP (sA sR)))) (fun w hS => run_ldA (cs := asgL _) underlying32 rfl rfl rfl (rangeAt_cells (hS.blk (i := 0) rfl))) <| AG 17 rfl rfl (bR (c := true) ((by rw [nd69, hexS, hexA]; exact exA_L))) (hH72.sub (sP (sP (sA sR)))) (fun w hS => run_ldA (cs := scpL _) underlying55 rfl rfl rfl (rangeAt_cells (hS.blk (i := 1) rfl))) <| A1 18 <| AO.callF rfl (gsome rfl (bR (c := true) ((by rw [nd69, hexS, hexA]; exact exA_L)))) rfl hH72 (sP (sP (sA sR))) (c_assign_Least (Kz (Kw w) ([Ent.blk b18 (.cells (([⟨⟨#[120]⟩, 1, 0⟩, ⟨⟨#[114]⟩, 2, 0⟩] : List VarR).flatMap varL).toArray 52 (0, 0))] ++ ([Ent.blk b13 (.cells ([(⟨⟨#[107]⟩, (⟨false, .slice (some ⟨b8, 0, none⟩) 1 1, [(⟨1, .slice (some ⟨b3, 0, none⟩) 2 2, exLH, Rl.none⟩ : Fac)]⟩ : Shp)⟩ : LatR)].flatMap latL).toArray 49 (0, 0))] ++ ([Ent.blk b8 (.cells ([(⟨1, .slice (some ⟨b3, 0, none⟩) 2 2, exLH, Rl.none⟩ : Fac)].flatMap facL).toArray 44 (0, 0))] ++ [Ent.blk b3 (.cells (txL exLH).toArray 9 (0, 0))])))) (⟨.slice (some ⟨b13, 0, none⟩) 1 1, [(⟨⟨#[107]⟩, (⟨false, .slice (some ⟨b8, 0, none⟩) 1 1, [(⟨1, .slice (some ⟨b3, 0, none⟩) 2 2, exLH, Rl.none⟩ : Fac)]⟩ : Shp)⟩ : LatR)], .slice (some ⟨b18, 0, none⟩) 2 2, [⟨⟨#[120]⟩, 1, 0⟩, ⟨⟨#[114]⟩, 2, 0⟩]⟩ : Scp) (by show 2 ≤ _; decide) _ (hH72.kz (Le.refl _) (fun x hx => (mT (mT (List.mem_append_right _ (List.mem_append_right _ (List.mem_append_right _ (List.mem_append_right _ hx)))))))) hs21 (hT.hp hH72)) (run_call1 call14 rfl) <| fun v76 w77 Z79 hH78 hp80 => have hH81 : Hp _ w77 (_ :: _ :: (Z79 ++ (Z65 ++ ([Ent.blk b43 (.cells (([.slice none 0 0, v34] : List Value)).toArray 22 (0, 0))] ++ (Z37 ++ ([Ent.blk b29 (.cells (([putE el0 0 1#64, el0] : List El).flatMap elL).toArray 25 (0, 0))] ++ ([Ent.blk b18 (.cells (([⟨⟨#[120]⟩, 1, 0⟩, ⟨⟨#[114]⟩, 2, 0⟩] : List VarR).flatMap varL).toArray 52 (0, 0))] ++ ([Ent.blk b13 (.cells ([(⟨⟨#[107]⟩, (⟨false, .slice (some ⟨b8, 0, none⟩) 1 1, [(⟨1, .slice (some ⟨b3, 0, none⟩) 2 2, exLH, Rl.none⟩ : Fac)]⟩ : Shp)⟩ : LatR)].flatMap latL).toArray 49 (0, 0))] ++ ([Ent.blk b8 (.cells ([(⟨1, .slice (some ⟨b3, 0, none⟩) 2 2, exLH, Rl.none⟩ : Fac)].flatMap facL).toArray 44 (0, 0))] ++ [Ent.blk b3 (.cells (txL exLH).toArray 9 (0, 0))]))))))))) := hH78.zin (L := [_, _]) (L' := (Z65 ++ ([Ent.blk b43 (.cells (([.slice none 0 0, v34] : List Value)).toArray 22 (0, 0))] ++ (Z37 ++ ([Ent.blk b29 (.cells (([putE el0 0 1#64, el0] : List El).flatMap elL).toArray 25 (0, 0))] ++ ([Ent.blk b18 (.cells (([⟨⟨#[120]⟩, 1, 0⟩, ⟨⟨#[114]⟩, 2, 0⟩] : List VarR).flatMap varL).toArray 52 (0, 0))] ++ ([Ent.blk b13 (.cells ([(⟨⟨#[107]⟩, (⟨false, .slice (some ⟨b8, 0, none⟩) 1 1, [(⟨1, .slice (some ⟨b3, 0, none⟩) 2 2, exLH, Rl.none⟩ : Fac)]⟩ : Shp)⟩ : LatR)].flatMap latL).toArray 49 (0, 0))] ++ ([Ent.blk b8 (.cells ([(⟨1, .slice (some ⟨b3, 0, none⟩) 2 2, exLH, Rl.none⟩ : Fac)].flatMap facL).toArray 44 (0, 0))] ++ [Ent.blk b3 (.cells (txL exLH).toArray 9 (0, 0))])))))))); ?_
 obtain ⟨n82, rfl, nd83, nv84⟩ := hp80
 refine A1 19 <| AO.callP rfl (gsome rfl (bR (c := true) ((by rw [nd69, hexS, hexA]; exact exA_L)))) rfl hH81 (sP (sP (sA (sA sR)))) (c_assign_Leq _ _ _ (ha46.mono (hH81.kz (Le.refl _) (fun x hx => (mT (mT (List.mem_append_right _ (List.mem_append_right _ hx))))))) (nv84.mono (Le.kk.trans (hH81.kz (Le.refl _) fun x hx => (List.mem_append.1 hx).elim ((fun x hx => (mT (mT (List.mem_append_left _ hx)))) x) ((fun x hx => (mT (mT (List.mem_append_right _ (List.mem_append_right _ (List.mem_append_right _ (List.mem_append_right _ (List.mem_append_right _ hx)))))))) x))))) (run_call2 call13 rfl rfl) <| fun w85 hH86 => AG 20 rfl rfl (bR (c := true) ((by rw [nd69, hexS, hexA]; exact exA_L))) (hH86.sub (sP (sP (sA (sA sR))))) (fun w hS => run_not (bR (c := false) ((by rw [nd83, hexS, hexA]; exact exA_N)))) <| have zh86 := hH86.sub (sP (sP (sA (sA sR)))); AQ 21 rfl zh86 (run_pickT (bR (c := true) ((by rw [nd69, hexS, hexA]; exact exA_L))) (v := B _) rfl) <| AQ 22 rfl zh86 (aV (B _) rfl) <| AD <| CW.ret <| outP1 Tryd.results5 (congrArg B ?_) hH86.below
 rfl
theorem c_clearanceref18_With (v : Value) (l : List ValR) (f : Tx) (e : El) (hl : l.length ≤ 1000) (hf : f.size ≤ 1000) (w : World) (hs : Sl w v 9 l.length (l.flatMap valL)) : Calls Tryd.prog 10 #[v, S f, .agg (elC e)] w (PureRow 27 9 (withF l f e).length ((withF l f e).flatMap valL) w) := by
 have hm := hs.small
 unfold maxLen at hm
 refine enter Tryd.func10 rfl Tryd.ntmps10 rfl <| have hH := Hp.start w; SR <| RL.new rfl hH (f := fun b => (.pointer (some ⟨b, 0, none⟩))) (run_box (v := .agg _) rfl) <| fun b3 w1 hH2 => va (v := .slice none 0 0) rfl <| RL.nil <| SR <| va (v := .slice none 0 0) rfl <| have hH4 := hH2.nilRow 27 9; RL.nil <| SR <| ?_
 refine V (run_move (by conv => lhs; whnf)) ?_
 refine vm (v := .string _) rfl <| RL.callP rfl hH4 (c_clearanceref18_Get _ _ _  _ (hs.hp hH4)) (run_call2 call7 rfl rfl) <| fun w5 hH6 => ?_
 refine V (run_move (by conv => lhs; whnf)) ?_
 refine V (run_extract rfl (v := .agg _) rfl) <| V (run_extract rfl (v := B _) rfl) <| RL.new rfl hH6 (f := fun b => (.pointer (some ⟨b, 0, none⟩))) (run_alloc zero_el) <| fun b10 w8 hH9 => RL.set hH9 (i := 0) rfl (run_stEl rfl rfl rfl (hH9.blk (i := 0) rfl)) <| fun w11 hH12 => ?_
 simp only [z2] at hH12
 refine aB rfl <| RL.nil <| SR <| va (v := B false) rfl <| RL.nil <| CW.seq <| SR <| va (v := I 0) rfl <| RL.nil <| CW.block <| CW.loop (G := Int × Bool × (List ValR) × Value) (fun ⟨k, dn, m, v7⟩ s' w' => (Fr (7 :: (10 :: 11 :: (rg 18 47 []))) _ s') ∧ (Hp w w' (_ :: .row v7 27 9 (m.length) (m.flatMap valL) :: _)) ∧ (s' 7 = v7) ∧ (s' 10 = B dn) ∧ (s' 11 = I k) ∧ (0 ≤ k) ∧ (k ≤ l.length) ∧ (m = wTo l f e k dn) ∧ (wIs l f k dn) ∧ ((m.length : Int) ≤ k + 1)) (fun ⟨k, dn, m, v7⟩ => (l.length - k).toNat) ((0, false, [], (.slice none 0 0 : Value))) ⟨Fr.refl _ _, hH12, rfl, rfl, rfl, (by omega), (by omega), w_0.1, (w_0 (e := e)).2, (by simp)⟩ <| ?_
 rintro ⟨k, dn, m, v7⟩ sg13 w13 ⟨fr13, hH13, e7_13, e10_13, e11_13, h0, hk, hm, hd, hml⟩
 have e0_13 := (fr13 0 rfl).trans (by conv => lhs; whnf)
 have e1_13 := fr13.ss 1 rfl rfl
 have e5_13 := fr13.pp 5 rfl rfl
 have e9_13 := fr13.bb 9 rfl rfl
 refine CW.seq <| SR <| vm e11_13 <| vm e0_13 <| V (run_lenSl (hs.hp hH13) rfl underlying22 rfl) <| V (run_lss rfl rfl) <| RL.nil <| CW.condP rfl (fun h16 => ?_) (fun h16 => ?_)
 ·refine CW.skip <| CW.seq <| CW.block <| CW.seq <| SR <| vm e10_13 <| V (run_not rfl) <| mB rfl <| RL.split (dj := 26) rfl (fun h18 => ?_) (fun h18 => ?_)
  ·refine gT rfl (bR (c := true) h18) <| vm e9_13 <| gT rfl (bR (c := true) h18) <| mB rfl <| RL.split (dj := 28) rfl (fun h19 => ?_) (fun h19 => ?_)
   ·refine gT rfl (bR (c := true) h19) <| vm e0_13 <| gT rfl (bR (c := true) h19) <| vm e11_13 <| gT rfl (bR (c := true) h19) <| V (run_indexAddrS (hs.hp hH13) underlying22 sizeOf27 rfl rfl (by omega)) <| gT rfl (bR (c := true) h19) <| V (fA underlying27 0 rfl sizeOf9 rfl) <| gT rfl (bR (c := true) h19) <| V (run_ldE1 (dv := val0) (off := 0) valL_len (hs.hp hH13) underlying9 rfl rfl (by omega) rfl) <| gT rfl (bR (c := true) h19) <| vm e1_13 <| gT rfl (bR (c := true) h19) <| V (run_eqlS rfl rfl) <| gT rfl (bR (c := true) h18) <| V (run_pickT (bR (c := true) h19) (v := B _) rfl) <| gT rfl (bR (c := true) h18) <| mB rfl <| RL.splitP (dj := 37) rfl (fun h21 => ?_) (fun h21 => ?_)
    ·refine gF rfl (bT h21) <| gF rfl (bT h21) <| gF rfl (bT h21) <| RL.gU rfl rfl rfl <| RL.gU rfl rfl rfl <| RL.gU rfl rfl rfl <| RL.gU rfl rfl rfl <| RL.gU rfl rfl rfl <| RL.gU rfl rfl rfl <| RL.gU rfl rfl rfl <| gF rfl (bT h21) <| gT rfl (bR (c := true) h18) <| V (run_pickT (bT h21) (v := B true) rfl) <| V (run_pickT (bR (c := true) h18) (v := B _) rfl) <| RL.nil <| CW.condT rfl <| SR <| vm e7_13 <| vm e1_13 <| V (run_ldEl underlying25 rfl rfl e5_13 (hH13.blk (i := 2) rfl)) <| V (run_bld (vs := [(0, S _), (1, .agg (elC _))]) rfl (built_val _ _)) <| RL.new rfl hH13 (f := fun b => (.slice (some ⟨b, 0, none⟩) 1 1)) (run_mkRecs valL_len underlying22 rfl rfl rfl (l := [⟨f, e⟩]) rfl (by decide) (by decide) rfl) <| fun b24 w22 hH23 => RL.app rfl hH23 (i := 2) rfl (Hp.slFlat valL_len hH23 (i := 0) (l := [⟨f, e⟩]) rfl (by simp [maxLen])) rfl rfl underlying22 rfl rfl (size := 9) (bytes := 80) rfl rfl rfl (by decide) (vals_one _) (by simp only [List.length_cons, List.length_nil]; omega) (by simp only [maxLen, List.length_cons, List.length_nil]; omega) <| fun v25 w26 hH27 => ?_
     simp only [z2] at hH27
     refine V (run_assign (by conv => lhs; whnf)) ?_
     refine RL.nil <| SR <| va (v := B true) rfl <| RL.nil <| SR <| vm e9_13 <| RL.nil <| CW.condT (bR (c := true) h19) <| CW.exit (id := 1) rfl <| CW.region <| vm e11_13 <| V (run_add rfl rfl (by omega)) <| aI rfl <| RL.nil <| ?_
     refine ⟨(k + 1, true, m ++ [⟨f, e⟩], v25), ?_, fr13.u4.u4.u4.u4.u4.u4.u4.u4.u4.u4.u1.u1.u1, (Hp.conv (hH27.sub (sQ sR)) (by simp)), rfl, rfl, (congrArg I (by rfl)), ?_, ?_, ?_, ?_, ?_⟩
     ·((try dsimp only); omega)
     ·omega
     ·omega
     ·exact (w_1 h0 ‹k < _› hm hd ‹(!dn) = true› ‹(getF l f).2 = true› ‹(List.getD l k.toNat val0).name = f›).1
     ·exact (w_1 h0 ‹k < _› hm hd ‹(!dn) = true› ‹(getF l f).2 = true› ‹(List.getD l k.toNat val0).name = f›).2
     ·(rw [(w_1 h0 ‹k < _› hm hd ‹(!dn) = true› ‹(getF l f).2 = true› ‹(List.getD l k.toNat val0).name = f›).1]; exact wTo_le (by omega))
    ·refine gT rfl (bF h21) <| vm e9_13 <| gT rfl (bF h21) <| V (run_not (bR (c := true) h19)) <| gT rfl (bF h21) <| mB rfl <| gF rfl rfl <| gF rfl rfl <| gF rfl rfl <| gF rfl rfl <| gF rfl rfl <| gF rfl rfl <| gF rfl rfl <| gT rfl (bF h21) <| V (run_pickF rfl (v := B false) rfl) <| gT rfl (bR (c := true) h18) <| V (run_pickF (bF h21) (v := B _) rfl) <| V (run_pickT (bR (c := true) h18) (v := B _) rfl) <| RL.nil <| CW.condF rfl <| CW.skip <| CW.region <| vm e7_13 <| vm e0_13 <| vm e11_13 <| V (run_indexAddrS (hs.hp hH13) underlying22 sizeOf27 rfl rfl (by omega)) <| V (run_ldE (dv := val0) valL_len (hs.hp hH13) underlying27 rfl rfl rfl (by omega)) <| RL.new rfl hH13 (f := fun b => (.slice (some ⟨b, 0, none⟩) 1 1)) (run_mkRecs valL_len underlying22 rfl rfl rfl (l := [(l.getD k.toNat val0)]) rfl (by decide) (by decide) rfl) <| fun b30 w28 hH29 => RL.app rfl hH29 (i := 2) rfl (Hp.slFlat valL_len hH29 (i := 0) (l := [(l.getD k.toNat val0)]) rfl (by simp [maxLen])) rfl rfl underlying22 rfl rfl (size := 9) (bytes := 80) rfl rfl rfl (by decide) (vals_one _) (by simp only [List.length_cons, List.length_nil]; omega) (by simp only [maxLen, List.length_cons, List.length_nil]; omega) <| fun v31 w32 hH33 => ?_
     simp only [z2] at hH33
     refine V (run_assign (by conv => lhs; whnf)) ?_
     refine RL.nil <| CW.region <| vm e11_13 <| V (run_add rfl rfl (by omega)) <| aI rfl <| RL.nil <| ?_
     refine ⟨(k + 1, dn, m ++ [(l.getD k.toNat val0)], v31), ?_, fr13.u4.u4.u4.u4.u4.u4.u4.u4.u4.u4.u1.u1, (Hp.conv (hH33.sub (sQ sR)) (by simp)), rfl, e10_13, (congrArg I (by rfl)), ?_, ?_, ?_, ?_, ?_⟩
     ·((try dsimp only); omega)
     ·omega
     ·omega
     ·exact (w_3 h0 ‹k < _› hm hd ‹(!dn) = true› (.inl ⟨‹(getF l f).2 = true›, ‹¬ (List.getD l k.toNat val0).name = f›⟩)).1
     ·exact (w_3 h0 ‹k < _› hm hd ‹(!dn) = true› (.inl ⟨‹(getF l f).2 = true›, ‹¬ (List.getD l k.toNat val0).name = f›⟩)).2
     ·(rw [(w_3 h0 ‹k < _› hm hd ‹(!dn) = true› (.inl ⟨‹(getF l f).2 = true›, ‹¬ (List.getD l k.toNat val0).name = f›⟩)).1]; exact wTo_le (by omega))
   ·refine gF rfl (bR (c := false) h19) <| gF rfl (bR (c := false) h19) <| gF rfl (bR (c := false) h19) <| gF rfl (bR (c := false) h19) <| gF rfl (bR (c := false) h19) <| gF rfl (bR (c := false) h19) <| gF rfl (bR (c := false) h19) <| gT rfl (bR (c := true) h18) <| V (run_pickF (bR (c := false) h19) (v := B false) rfl) <| gT rfl (bR (c := true) h18) <| mB rfl <| gT rfl rfl <| vm e9_13 <| gT rfl rfl <| V (run_not (bR (c := false) h19)) <| gT rfl rfl <| mB rfl <| gT rfl rfl <| vm e1_13 <| gT rfl rfl <| vm e0_13 <| gT rfl rfl <| vm e11_13 <| gT rfl rfl <| V (run_indexAddrS (hs.hp hH13) underlying22 sizeOf27 rfl rfl (by omega)) <| gT rfl rfl <| V (fA underlying27 0 rfl sizeOf9 rfl) <| gT rfl rfl <| V (run_ldE1 (dv := val0) (off := 0) valL_len (hs.hp hH13) underlying9 rfl rfl (by omega) rfl) <| gT rfl rfl <| RL.callP rfl hH13 (c_clearanceref02_Less _ _ (.inl hf) _) (run_call2 call17 rfl rfl) <| fun w34 hH35 => gT rfl rfl <| V (run_pickT rfl (v := B _) rfl) <| gT rfl (bR (c := true) h18) <| V (run_pickF rfl (v := B _) rfl) <| V (run_pickT (bR (c := true) h18) (v := B _) rfl) <| RL.nil <| CW.cond rfl (fun h37 => ?_) (fun h37 => ?_)
    ·refine SR <| vm e7_13 <| vm e1_13 <| V (run_ldEl underlying25 rfl rfl e5_13 (hH35.blk (i := 2) rfl)) <| V (run_bld (vs := [(0, S _), (1, .agg (elC _))]) rfl (built_val _ _)) <| RL.new rfl hH35 (f := fun b => (.slice (some ⟨b, 0, none⟩) 1 1)) (run_mkRecs valL_len underlying22 rfl rfl rfl (l := [⟨f, e⟩]) rfl (by decide) (by decide) rfl) <| fun b40 w38 hH39 => RL.app rfl hH39 (i := 2) rfl (Hp.slFlat valL_len hH39 (i := 0) (l := [⟨f, e⟩]) rfl (by simp [maxLen])) rfl rfl underlying22 rfl rfl (size := 9) (bytes := 80) rfl rfl rfl (by decide) (vals_one _) (by simp only [List.length_cons, List.length_nil]; omega) (by simp only [maxLen, List.length_cons, List.length_nil]; omega) <| fun v41 w42 hH43 => ?_
     simp only [z2] at hH43
     refine V (run_assign (by conv => lhs; whnf)) ?_
     refine RL.nil <| SR <| va (v := B true) rfl <| RL.nil <| SR <| vm e9_13 <| RL.nil <| CW.condF (bR (c := false) h19) <| CW.skip <| CW.region <| ?_
     refine V (run_move (by conv => lhs; whnf)) ?_
     refine vm e0_13 <| vm e11_13 <| V (run_indexAddrS (hs.hp hH43) underlying22 sizeOf27 rfl rfl (by omega)) <| V (run_ldE (dv := val0) valL_len (hs.hp hH43) underlying27 rfl rfl rfl (by omega)) <| RL.new rfl hH43 (f := fun b => (.slice (some ⟨b, 0, none⟩) 1 1)) (run_mkRecs valL_len underlying22 rfl rfl rfl (l := [(l.getD k.toNat val0)]) rfl (by decide) (by decide) rfl) <| fun b46 w44 hH45 => RL.app rfl hH45 (i := 3) rfl (Hp.slFlat valL_len hH45 (i := 0) (l := [(l.getD k.toNat val0)]) rfl (by simp [maxLen])) rfl rfl underlying22 rfl rfl (size := 9) (bytes := 80) rfl rfl rfl (by decide) (vals_one _) (by simp only [List.length_cons, List.length_nil]; omega) (by simp only [maxLen, List.length_cons, List.length_nil]; omega) <| fun v47 w48 hH49 => ?_
     simp only [z2] at hH49
     refine V (run_assign (by conv => lhs; whnf)) ?_
     refine RL.nil <| CW.region <| vm e11_13 <| V (run_add rfl rfl (by omega)) <| aI rfl <| RL.nil <| ?_
     refine ⟨(k + 1, true, m ++ [⟨f, e⟩] ++ [(l.getD k.toNat val0)], v47), ?_, fr13.u4.u4.u4.u4.u4.u4.u4.u4.u4.u4.u4.u4.u1.u1.u1, (Hp.conv (hH49.sub (sQ (sQ sR))) (by simp)), rfl, rfl, (congrArg I (by rfl)), ?_, ?_, ?_, ?_, ?_⟩
     ·((try dsimp only); omega)
     ·omega
     ·omega
     ·exact (w_2 h0 ‹k < _› hm hd ‹(!dn) = true› ‹(getF l f).2 = false› ‹lessT f (List.getD l k.toNat val0).name = true›).1
     ·exact (w_2 h0 ‹k < _› hm hd ‹(!dn) = true› ‹(getF l f).2 = false› ‹lessT f (List.getD l k.toNat val0).name = true›).2
     ·(rw [(w_2 h0 ‹k < _› hm hd ‹(!dn) = true› ‹(getF l f).2 = false› ‹lessT f (List.getD l k.toNat val0).name = true›).1]; exact wTo_le (by omega))
    ·refine CW.skip <| CW.region <| vm e7_13 <| vm e0_13 <| vm e11_13 <| V (run_indexAddrS (hs.hp hH35) underlying22 sizeOf27 rfl rfl (by omega)) <| V (run_ldE (dv := val0) valL_len (hs.hp hH35) underlying27 rfl rfl rfl (by omega)) <| RL.new rfl hH35 (f := fun b => (.slice (some ⟨b, 0, none⟩) 1 1)) (run_mkRecs valL_len underlying22 rfl rfl rfl (l := [(l.getD k.toNat val0)]) rfl (by decide) (by decide) rfl) <| fun b52 w50 hH51 => RL.app rfl hH51 (i := 2) rfl (Hp.slFlat valL_len hH51 (i := 0) (l := [(l.getD k.toNat val0)]) rfl (by simp [maxLen])) rfl rfl underlying22 rfl rfl (size := 9) (bytes := 80) rfl rfl rfl (by decide) (vals_one _) (by simp only [List.length_cons, List.length_nil]; omega) (by simp only [maxLen, List.length_cons, List.length_nil]; omega) <| fun v53 w54 hH55 => ?_
     simp only [z2] at hH55
     refine V (run_assign (by conv => lhs; whnf)) ?_
     refine RL.nil <| CW.region <| vm e11_13 <| V (run_add rfl rfl (by omega)) <| aI rfl <| RL.nil <| ?_
     refine ⟨(k + 1, dn, m ++ [(l.getD k.toNat val0)], v53), ?_, fr13.u4.u4.u4.u4.u4.u4.u4.u4.u4.u4.u1.u1, (Hp.conv (hH55.sub (sQ sR)) (by simp)), rfl, e10_13, (congrArg I (by rfl)), ?_, ?_, ?_, ?_, ?_⟩
     ·((try dsimp only); omega)
     ·omega
     ·omega
     ·exact (w_3 h0 ‹k < _› hm hd ‹(!dn) = true› (.inr ⟨‹(getF l f).2 = false›, ‹lessT f (List.getD l k.toNat val0).name = false›⟩)).1
     ·exact (w_3 h0 ‹k < _› hm hd ‹(!dn) = true› (.inr ⟨‹(getF l f).2 = false›, ‹lessT f (List.getD l k.toNat val0).name = false›⟩)).2
     ·(rw [(w_3 h0 ‹k < _› hm hd ‹(!dn) = true› (.inr ⟨‹(getF l f).2 = false›, ‹lessT f (List.getD l k.toNat val0).name = false›⟩)).1]; exact wTo_le (by omega))
  ·refine gF rfl (bR (c := false) h18) <| gF rfl (bR (c := false) h18) <| RL.gU rfl rfl rfl <| RL.gU rfl rfl rfl <| RL.gU rfl rfl rfl <| RL.gU rfl rfl rfl <| RL.gU rfl rfl rfl <| RL.gU rfl rfl rfl <| RL.gU rfl rfl rfl <| gF rfl (bR (c := false) h18) <| gF rfl (bR (c := false) h18) <| RL.gU rfl rfl rfl <| RL.gU rfl rfl rfl <| RL.gU rfl rfl rfl <| RL.gU rfl rfl rfl <| RL.gU rfl rfl rfl <| RL.gU rfl rfl rfl <| RL.gU rfl rfl rfl <| RL.gU rfl rfl rfl <| RL.gU rfl rfl rfl <| RL.gU rfl rfl rfl <| RL.gU rfl rfl rfl <| gF rfl (bR (c := false) h18) <| V (run_pickF (bR (c := false) h18) (v := B false) rfl) <| RL.nil <| CW.condF rfl <| CW.skip <| CW.region <| vm e7_13 <| vm e0_13 <| vm e11_13 <| V (run_indexAddrS (hs.hp hH13) underlying22 sizeOf27 rfl rfl (by omega)) <| V (run_ldE (dv := val0) valL_len (hs.hp hH13) underlying27 rfl rfl rfl (by omega)) <| RL.new rfl hH13 (f := fun b => (.slice (some ⟨b, 0, none⟩) 1 1)) (run_mkRecs valL_len underlying22 rfl rfl rfl (l := [(l.getD k.toNat val0)]) rfl (by decide) (by decide) rfl) <| fun b58 w56 hH57 => RL.app rfl hH57 (i := 2) rfl (Hp.slFlat valL_len hH57 (i := 0) (l := [(l.getD k.toNat val0)]) rfl (by simp [maxLen])) rfl rfl underlying22 rfl rfl (size := 9) (bytes := 80) rfl rfl rfl (by decide) (vals_one _) (by simp only [List.length_cons, List.length_nil]; omega) (by simp only [maxLen, List.length_cons, List.length_nil]; omega) <| fun v59 w60 hH61 => ?_
   simp only [z2] at hH61
   refine V (run_assign (by conv => lhs; whnf)) ?_
   refine RL.nil <| CW.region <| vm e11_13 <| V (run_add rfl rfl (by omega)) <| aI rfl <| RL.nil <| ?_
   refine ⟨(k + 1, dn, m ++ [(l.getD k.toNat val0)], v59), ?_, fr13.u4.u4.u4.u4.u4.u4.u4.u4.u4.u4.u1.u1, (Hp.conv (hH61.sub (sQ sR)) (by simp)), rfl, e10_13, (congrArg I (by rfl)), ?_, ?_, ?_, ?_, ?_⟩
   ·((try dsimp only); omega)
   ·omega
   ·omega
   ·exact (w_4 h0 ‹k < _› hm hd ‹(!dn) = false›).1
   ·exact (w_4 h0 ‹k < _› hm hd ‹(!dn) = false›).2
   ·(rw [(w_4 h0 ‹k < _› hm hd ‹(!dn) = false›).1]; exact wTo_le (by omega))
 ·refine CW.exit (id := 0) rfl <| CW.seq <| SR <| vm e10_13 <| V (run_not rfl) <| RL.nil <| CW.cond rfl (fun h63 => ?_) (fun h63 => ?_)
  ·refine CW.region <| vm e7_13 <| vm e1_13 <| V (run_ldEl underlying25 rfl rfl e5_13 (hH13.blk (i := 2) rfl)) <| V (run_bld (vs := [(0, S _), (1, .agg (elC _))]) rfl (built_val _ _)) <| RL.new rfl hH13 (f := fun b => (.slice (some ⟨b, 0, none⟩) 1 1)) (run_mkRecs valL_len underlying22 rfl rfl rfl (l := [⟨f, e⟩]) rfl (by decide) (by decide) rfl) <| fun b66 w64 hH65 => RL.app rfl hH65 (i := 2) rfl (Hp.slFlat valL_len hH65 (i := 0) (l := [⟨f, e⟩]) rfl (by simp [maxLen])) rfl rfl underlying22 rfl rfl (size := 9) (bytes := 80) rfl rfl rfl (by decide) (vals_one _) (by simp only [List.length_cons, List.length_nil]; omega) (by simp only [maxLen, List.length_cons, List.length_nil]; omega) <| fun v67 w68 hH69 => ?_
   simp only [z2] at hH69
   refine V (run_assign (by conv => lhs; whnf)) ?_
   refine RL.nil <| SR <| ?_
   refine V (run_move (by conv => lhs; whnf)) ?_
   refine V (run_assign (by conv => lhs; whnf)) ?_
   refine RL.nil <| CW.ret <| outR Tryd.results10 rfl hH69 (i := 2) rfl ((by rw [← w_e1 h0 hk ‹¬ k < _› hm hd ‹(!dn) = true›]; ((simp; done)))) ((by rw [← w_e1 h0 hk ‹¬ k < _› hm hd ‹(!dn) = true›]; ((simp; done))))
  ·refine CW.skip <| SR <| vm e7_13 <| ?_
   refine V (run_assign (by conv => lhs; whnf)) ?_
   refine RL.nil <| CW.ret <| outR Tryd.results10 rfl hH13 (i := 1) rfl ((by rw [← w_e2 (f := f) (e := e) h0 hk ‹¬ k < _› hm ‹(!dn) = false›]; done)) ((by rw [← w_e2 (f := f) (e := e) h0 hk ‹¬ k < _› hm ‹(!dn) = false›]; done))
set_option maxHeartbeats 4000000 in
theorem c_clearancelaw18_AssignFields (v : Value) (l : List ValR) (x : ValR) (o : Tx) (hz : l.length ≤ 1759218604390) (w : World) (hs : Sl w v 9 l.length (l.flatMap valL)) (hT : Tab w) : Calls Tryd.prog 3 #[v, .agg (valL x).toArray, S o] w (Pure (B true) w) := by
 have hm := hs.small
 unfold maxLen at hm
 refine enter Tryd.func3 rfl Tryd.ntmps3 rfl <| have hH := Hp.start w; SR <| RL.new rfl hH (f := fun b => (.pointer (some ⟨b, 0, none⟩))) (run_box (v := .agg _) rfl) <| fun b3 w1 hH2 => va (v := B false) rfl <| RL.nil <| CW.seq <| SR <| ?_
 refine V (run_move (by conv => lhs; whnf)) ?_
 refine RL.new rfl hH2 (f := fun b => (.slice (some ⟨b, 0, none⟩) 1 1)) (run_mkSl1 (v := v) (one_slv hs.slv).2 underlying29 rfl rfl rfl rfl) <| fun b6 w4 hH5 => have hH7 : Hp _ w4 (_ :: [Ent.blk b6 (.cells (([v] : List Value)).toArray 22 (0, 0))]) := Hp.zin0 (Z := [Ent.blk b6 (.cells (([v] : List Value)).toArray 22 (0, 0))]) (L := [_]) hH5; have hv8 : SlV (Kz (Kw w) [Ent.blk b6 (.cells (([v] : List Value)).toArray 22 (0, 0))]) (.slice (some ⟨b6, 0, none⟩) 1 1) 1 1 (([v] : List Value)) := slv_blk (List.mem_cons_self ..) rfl (by simp [maxLen]); V (run_bld (vs := [(1, .slice (some ⟨b6, 0, none⟩) 1 1)]) rfl (built_asg1 rfl)) <| have ha9 : AsgV (Kz (Kw w) [Ent.blk b6 (.cells (([v] : List Value)).toArray 22 (0, 0))]) (⟨.slice none 0 0, [], .slice (some ⟨b6, 0, none⟩) 1 1, [⟨v, l⟩]⟩ : Asg) := ⟨SlV.nil _ _, (hv8.mono (Le.zz (fun x hx => hx))), (RowsV.nil _).snoc (r := ⟨v, l⟩) (hs.slv.mono (Le.z _ _))⟩; RL.callP rfl hH7 (c_clearancelaw18_Big _ (fun r hr => by rw [List.mem_singleton.1 hr]; exact hz) _ (ha9.mono (hH7.kz (Le.refl _) (fun x hx => (mT hx))))) (run_call1 call4 rfl) <| fun w10 hH11 => mB rfl <| RL.split (dj := 22) rfl (fun h13 => ?_) (fun h13 => ?_)
 ·refine gF rfl (bR (c := true) h13) <| gF rfl (bR (c := true) h13) <| gF rfl (bR (c := true) h13) <| gF rfl (bR (c := true) h13) <| V (run_pickT (bR (c := true) h13) (v := B true) rfl) <| mB rfl <| gF rfl rfl <| gF rfl rfl <| gF rfl rfl <| V (run_pickT rfl (v := B true) rfl) <| RL.nil <| CW.condT rfl <| SR <| RL.callP rfl hH11 (c_clearancelaw18_alive   _ (hT.hp hH11)) (run_call0 call5) <| fun w14 hH15 => aB rfl <| RL.nil <| CW.ret <| outP1 Tryd.results3 (congrArg B ?_) hH15.below
  rfl
 ·refine gT rfl (bR (c := false) h13) <| V (fA underlying27 0 rfl sizeOf9 rfl) <| gT rfl (bR (c := false) h13) <| V (run_ld underlying9 rfl rfl (hH11.cell (i := 0) rfl (v := .string _) rfl)) <| gT rfl (bR (c := false) h13) <| V (run_lenStr rfl underlying9 rfl) <| gT rfl (bR (c := false) h13) <| V (run_gtr rfl rfl) <| V (run_pickF (bR (c := false) h13) (v := B _) rfl) <| mB rfl <| RL.splitP (dj := 28) rfl (fun h18 => ?_) (fun h18 => ?_)
  ·refine gF rfl (bT h18) <| gF rfl (bT h18) <| gF rfl (bT h18) <| V (run_pickT (bT h18) (v := B true) rfl) <| RL.nil <| CW.condT rfl <| SR <| RL.callP rfl hH11 (c_clearancelaw18_alive   _ (hT.hp hH11)) (run_call0 call5) <| fun w19 hH20 => aB rfl <| RL.nil <| CW.ret <| outP1 Tryd.results3 (congrArg B ?_) hH20.below
   rfl
  ·refine gT rfl (bF h18) <| vm (v := .string _) rfl <| gT rfl (bF h18) <| V (run_lenStr rfl underlying9 rfl) <| gT rfl (bF h18) <| V (run_gtr rfl rfl) <| V (run_pickF (bF h18) (v := B _) rfl) <| RL.nil <| CW.condP rfl (fun h23 => ?_) (fun h23 => ?_)
   ·refine SR <| RL.callP rfl hH11 (c_clearancelaw18_alive   _ (hT.hp hH11)) (run_call0 call5) <| fun w24 hH25 => aB rfl <| RL.nil <| CW.ret <| outP1 Tryd.results3 (congrArg B ?_) hH25.below
    rfl
   ·refine CW.skip <| SR <| ?_
    refine V (run_move (by conv => lhs; whnf)) ?_
    refine V (fA underlying27 0 rfl sizeOf9 rfl) <| V (run_ld underlying9 rfl rfl (hH11.cell (i := 0) rfl (v := .string _) rfl)) <| RL.callP rfl hH11 (c_assign_Get _ _ _  _ (hs.hp hH11)) (run_call2 call6 rfl rfl) <| fun w27 hH28 => ?_
    refine V (run_move (by conv => lhs; whnf)) ?_
    refine V (run_extract rfl (v := .agg _) rfl) <| V (run_extract rfl (v := B _) rfl) <| RL.new rfl hH28 (f := fun b => (.pointer (some ⟨b, 0, none⟩))) (run_alloc zero_el) <| fun b32 w30 hH31 => RL.set hH31 (i := 0) rfl (run_stEl rfl rfl rfl (hH31.blk (i := 0) rfl)) <| fun w33 hH34 => ?_
    simp only [z2] at hH34
    refine aB rfl <| RL.nil <| SR <| ?_
    refine V (run_move (by conv => lhs; whnf)) ?_
    refine V (fA underlying27 0 rfl sizeOf9 rfl) <| V (run_ld underlying9 rfl rfl (hH34.cell (i := 1) rfl (v := .string _) rfl)) <| RL.callP rfl hH34 (c_clearanceref18_Get _ _ _  _ (hs.hp hH34)) (run_call2 call7 rfl rfl) <| fun w35 hH36 => ?_
    refine V (run_move (by conv => lhs; whnf)) ?_
    refine V (run_extract rfl (v := .agg _) rfl) <| V (run_extract rfl (v := B _) rfl) <| RL.new rfl hH36 (f := fun b => (.pointer (some ⟨b, 0, none⟩))) (run_alloc zero_el) <| fun b40 w38 hH39 => RL.set hH39 (i := 0) rfl (run_stEl rfl rfl rfl (hH39.blk (i := 0) rfl)) <| fun w41 hH42 => ?_
    simp only [z2] at hH42
    refine aB rfl <| RL.nil <| SR <| ?_
    refine V (run_move (by conv => lhs; whnf)) ?_
    refine V (fA underlying27 0 rfl sizeOf9 rfl) <| V (run_ld underlying9 rfl rfl (hH42.cell (i := 2) rfl (v := .string _) rfl)) <| V (fA underlying27 1 rfl sizeOf25 rfl) <| V (run_ldVB underlying25 rfl rfl rfl (hH42.blk (i := 2) rfl)) <| have hbq := ((bigA_no ‹bigA _ = false›).2.2 _ (List.mem_singleton.2 rfl)).1; have hbl : l.length ≤ 200 := hbq; RL.callF rfl hH42 (c_assign_With (Kw w) _ l x.name x.el (by omega) _ hH42.kw (hs.hp hH42)) (run_call3 call8 rfl rfl rfl) <| fun v45 w46 Z48 hH47 hp49 => have hH50 : Hp _ w46 (_ :: _ :: _ :: (Z48 ++ [Ent.blk b6 (.cells (([v] : List Value)).toArray 22 (0, 0))])) := hH47.zin (L := [_, _, _]) (L' := [Ent.blk b6 (.cells (([v] : List Value)).toArray 22 (0, 0))]); have hv51 := hp49; ?_
    refine V (run_assign (by conv => lhs; whnf)) ?_
    refine RL.nil <| SR <| ?_
    refine V (run_move (by conv => lhs; whnf)) ?_
    refine V (fA underlying27 0 rfl sizeOf9 rfl) <| V (run_ld underlying9 rfl rfl (hH50.cell (i := 2) rfl (v := .string _) rfl)) <| RL.callP rfl hH50 (c_assign_Get _ _ _  _ (hv51.mono (hH50.kz (Le.refl _) (fun x hx => (mT (mT (mT (List.mem_append_left _ hx))))))).sl) (run_call2 call6 rfl rfl) <| fun w52 hH53 => ?_
    refine V (run_move (by conv => lhs; whnf)) ?_
    refine V (run_extract rfl (v := .agg _) rfl) <| V (run_extract rfl (v := B _) rfl) <| RL.new rfl hH53 (f := fun b => (.pointer (some ⟨b, 0, none⟩))) (run_alloc zero_el) <| fun b57 w55 hH56 => RL.set hH56 (i := 0) rfl (run_stEl rfl rfl rfl (hH56.blk (i := 0) rfl)) <| fun w58 hH59 => ?_
    simp only [z2] at hH59
    refine aB rfl <| RL.nil <| SR <| ?_
    refine V (run_move (by conv => lhs; whnf)) ?_
    refine vm (v := .string _) rfl <| RL.callP rfl hH59 (c_assign_Get _ _ _  _ (hv51.mono (hH59.kz (Le.refl _) (fun x hx => (mT (mT (mT (mT (List.mem_append_left _ hx)))))))).sl) (run_call2 call6 rfl rfl) <| fun w60 hH61 => ?_
    refine V (run_move (by conv => lhs; whnf)) ?_
    refine V (run_extract rfl (v := .agg _) rfl) <| V (run_extract rfl (v := B _) rfl) <| RL.new rfl hH61 (f := fun b => (.pointer (some ⟨b, 0, none⟩))) (run_alloc zero_el) <| fun b65 w63 hH64 => RL.set hH64 (i := 0) rfl (run_stEl rfl rfl rfl (hH64.blk (i := 0) rfl)) <| fun w66 hH67 => ?_
    simp only [z2] at hH67
    refine aB rfl <| RL.nil <| SR <| ?_
    refine V (run_move (by conv => lhs; whnf)) ?_
    refine vm (v := .string _) rfl <| RL.callP rfl hH67 (c_assign_Get _ _ _  _ (hs.hp hH67)) (run_call2 call6 rfl rfl) <| fun w68 hH69 => ?_
    refine V (run_move (by conv => lhs; whnf)) ?_
    refine V (run_extract rfl (v := .agg _) rfl) <| V (run_extract rfl (v := B _) rfl) <| RL.new rfl hH69 (f := fun b => (.pointer (some ⟨b, 0, none⟩))) (run_alloc zero_el) <| fun b73 w71 hH72 => RL.set hH72 (i := 0) rfl (run_stEl rfl rfl rfl (hH72.blk (i := 0) rfl)) <| fun w74 hH75 => ?_
    simp only [z2] at hH75
    refine aB rfl <| RL.nil <| CW.seq <| SR <| vm (v := .string _) rfl <| V (fA underlying27 0 rfl sizeOf9 rfl) <| V (run_ld underlying9 rfl rfl (hH75.cell (i := 5) rfl (v := .string _) rfl)) <| V (run_eqlS rfl rfl) <| RL.nil <| CW.condP rfl (fun h77 => ?_) (fun h77 => ?_)
    ·refine CW.region <| V (fA underlying27 1 rfl sizeOf25 rfl) <| V (run_ldVB underlying25 rfl rfl rfl (hH75.blk (i := 5) rfl)) <| RL.set hH75 (i := 0) rfl (run_stEl rfl rfl rfl (hH75.blk (i := 0) rfl)) <| fun w78 hH79 => ?_
     simp only [z2] at hH79
     refine va (v := B true) rfl <| RL.nil <| SR <| V (run_ldEl underlying25 rfl rfl rfl (hH79.blk (i := 4) rfl)) <| V (run_ldEl underlying25 rfl rfl rfl (hH79.blk (i := 3) rfl)) <| V (run_eqlEl elT_fact rfl rfl) <| mB rfl <| gT rfl (bT ((fun _ _ => rfl))) <| mB rfl <| gT rfl (bT ((fun _ _ => rfl))) <| mB rfl <| gT rfl (bT ((fun _ _ => rfl))) <| V (run_eqlB underlying4 rfl rfl) <| V (run_pickT (bT ((fun _ _ => rfl))) (v := B _) rfl) <| mB rfl <| gT rfl (bR (c := true) ((beq_self_eq_true _))) <| ?_
     refine V (run_move (by conv => lhs; whnf)) ?_
     refine gT rfl (bR (c := true) ((beq_self_eq_true _))) ?_
     refine V (run_move (by conv => lhs; whnf)) ?_
     refine gT rfl (bR (c := true) ((beq_self_eq_true _))) <| V (fA underlying27 0 rfl sizeOf9 rfl) <| gT rfl (bR (c := true) ((beq_self_eq_true _))) <| V (run_ld underlying9 rfl rfl (hH79.cell (i := 5) rfl (v := .string _) rfl)) <| gT rfl (bR (c := true) ((beq_self_eq_true _))) <| V (fA underlying27 1 rfl sizeOf25 rfl) <| gT rfl (bR (c := true) ((beq_self_eq_true _))) <| V (run_ldVB underlying25 rfl rfl rfl (hH79.blk (i := 5) rfl)) <| gT rfl (bR (c := true) ((beq_self_eq_true _))) <| RL.callR rfl hH79 (c_clearanceref18_With _ l x.name x.el (by omega) (by omega) _ (hs.hp hH79)) (run_call3 call10 rfl rfl rfl) <| fun v84 w82 hH83 => gT rfl (bR (c := true) ((beq_self_eq_true _))) <| RL.callP rfl hH83 (c_clearanceref18_Fields _ _ _ _  _ (hv51.mono (hH83.kz (Le.refl _) (fun x hx => (mT (mT (mT (mT (mT (mT (mT (List.mem_append_left _ hx))))))))))).sl (hH83.sl (i := 0) rfl)) (run_call2 call9 rfl rfl) <| fun w85 hH86 => V (run_pickT (bR (c := true) ((beq_self_eq_true _))) (v := B _) rfl) <| mB rfl <| gT rfl (bR (c := true) ((sameL_rfl _))) <| mB rfl <| V (run_pickT (bR (c := true) ((sameL_rfl _))) (v := B _) rfl) <| mB rfl <| gT rfl (bR (c := true) ((by rw [get_with_same]))) <| V (run_ldEl underlying25 rfl rfl rfl (hH86.blk (i := 3) rfl)) <| gT rfl (bR (c := true) ((by rw [get_with_same]))) <| V (fA underlying27 1 rfl sizeOf25 rfl) <| gT rfl (bR (c := true) ((by rw [get_with_same]))) <| V (run_ldVB underlying25 rfl rfl rfl (hH86.blk (i := 6) rfl)) <| gT rfl (bR (c := true) ((by rw [get_with_same]))) <| V (run_eqlEl elT_fact rfl rfl) <| V (run_pickT (bR (c := true) ((by rw [get_with_same]))) (v := B _) rfl) <| mB rfl <| gT rfl (bT ((by rw [get_with_same]; exact fun _ _ => rfl))) <| V (run_ldEl underlying25 rfl rfl rfl (hH86.blk (i := 2) rfl)) <| gT rfl (bT ((by rw [get_with_same]; exact fun _ _ => rfl))) <| V (run_ldEl underlying25 rfl rfl rfl (hH86.blk (i := 1) rfl)) <| gT rfl (bT ((by rw [get_with_same]; exact fun _ _ => rfl))) <| V (run_eqlEl elT_fact rfl rfl) <| V (run_pickT (bT ((by rw [get_with_same]; exact fun _ _ => rfl))) (v := B _) rfl) <| mB rfl <| gT rfl (bT ((by rw [‹o = x.name›, get_with_same]; exact fun _ _ => rfl))) <| mB rfl <| gT rfl (bT ((by rw [‹o = x.name›, get_with_same]; exact fun _ _ => rfl))) <| mB rfl <| gT rfl (bT ((by rw [‹o = x.name›, get_with_same]; exact fun _ _ => rfl))) <| V (run_eqlB underlying4 rfl rfl) <| V (run_pickT (bT ((by rw [‹o = x.name›, get_with_same]; exact fun _ _ => rfl))) (v := B _) rfl) <| mB rfl <| gT rfl (bR (c := true) ((by rw [‹o = x.name›, get_with_same]; rfl))) <| RL.callP rfl hH86 (c_clearancelaw18_alive   _ (hT.hp hH86)) (run_call0 call5) <| fun w91 hH92 => V (run_pickT (bR (c := true) ((by rw [‹o = x.name›, get_with_same]; rfl))) (v := B _) rfl) <| aB rfl <| RL.nil <| CW.ret <| outP1 Tryd.results3 (congrArg B ?_) hH92.below
     rfl
    ·refine CW.skip <| SR <| V (run_ldEl underlying25 rfl rfl rfl (hH75.blk (i := 4) rfl)) <| V (run_ldEl underlying25 rfl rfl rfl (hH75.blk (i := 3) rfl)) <| V (run_eqlEl elT_fact rfl rfl) <| mB rfl <| gT rfl (bT ((fun _ _ => rfl))) <| mB rfl <| gT rfl (bT ((fun _ _ => rfl))) <| mB rfl <| gT rfl (bT ((fun _ _ => rfl))) <| V (run_eqlB underlying4 rfl rfl) <| V (run_pickT (bT ((fun _ _ => rfl))) (v := B _) rfl) <| mB rfl <| gT rfl (bR (c := true) ((beq_self_eq_true _))) <| ?_
     refine V (run_move (by conv => lhs; whnf)) ?_
     refine gT rfl (bR (c := true) ((beq_self_eq_true _))) ?_
     refine V (run_move (by conv => lhs; whnf)) ?_
     refine gT rfl (bR (c := true) ((beq_self_eq_true _))) <| V (fA underlying27 0 rfl sizeOf9 rfl) <| gT rfl (bR (c := true) ((beq_self_eq_true _))) <| V (run_ld underlying9 rfl rfl (hH75.cell (i := 5) rfl (v := .string _) rfl)) <| gT rfl (bR (c := true) ((beq_self_eq_true _))) <| V (fA underlying27 1 rfl sizeOf25 rfl) <| gT rfl (bR (c := true) ((beq_self_eq_true _))) <| V (run_ldVB underlying25 rfl rfl rfl (hH75.blk (i := 5) rfl)) <| gT rfl (bR (c := true) ((beq_self_eq_true _))) <| RL.callR rfl hH75 (c_clearanceref18_With _ l x.name x.el (by omega) (by omega) _ (hs.hp hH75)) (run_call3 call10 rfl rfl rfl) <| fun v98 w96 hH97 => gT rfl (bR (c := true) ((beq_self_eq_true _))) <| RL.callP rfl hH97 (c_clearanceref18_Fields _ _ _ _  _ (hv51.mono (hH97.kz (Le.refl _) (fun x hx => (mT (mT (mT (mT (mT (mT (mT (List.mem_append_left _ hx))))))))))).sl (hH97.sl (i := 0) rfl)) (run_call2 call9 rfl rfl) <| fun w99 hH100 => V (run_pickT (bR (c := true) ((beq_self_eq_true _))) (v := B _) rfl) <| mB rfl <| gT rfl (bR (c := true) ((sameL_rfl _))) <| mB rfl <| V (run_pickT (bR (c := true) ((sameL_rfl _))) (v := B _) rfl) <| mB rfl <| gT rfl (bR (c := true) ((by rw [get_with_same]))) <| V (run_ldEl underlying25 rfl rfl rfl (hH100.blk (i := 3) rfl)) <| gT rfl (bR (c := true) ((by rw [get_with_same]))) <| V (fA underlying27 1 rfl sizeOf25 rfl) <| gT rfl (bR (c := true) ((by rw [get_with_same]))) <| V (run_ldVB underlying25 rfl rfl rfl (hH100.blk (i := 6) rfl)) <| gT rfl (bR (c := true) ((by rw [get_with_same]))) <| V (run_eqlEl elT_fact rfl rfl) <| V (run_pickT (bR (c := true) ((by rw [get_with_same]))) (v := B _) rfl) <| mB rfl <| gT rfl (bT ((by rw [get_with_same]; exact fun _ _ => rfl))) <| V (run_ldEl underlying25 rfl rfl rfl (hH100.blk (i := 2) rfl)) <| gT rfl (bT ((by rw [get_with_same]; exact fun _ _ => rfl))) <| V (run_ldEl underlying25 rfl rfl rfl (hH100.blk (i := 1) rfl)) <| gT rfl (bT ((by rw [get_with_same]; exact fun _ _ => rfl))) <| V (run_eqlEl elT_fact rfl rfl) <| V (run_pickT (bT ((by rw [get_with_same]; exact fun _ _ => rfl))) (v := B _) rfl) <| mB rfl <| gT rfl (bT ((by rw [get_with_other _ ‹¬ o = x.name›]; exact fun _ _ => rfl))) <| mB rfl <| gT rfl (bT ((by rw [get_with_other _ ‹¬ o = x.name›]; exact fun _ _ => rfl))) <| mB rfl <| gT rfl (bT ((by rw [get_with_other _ ‹¬ o = x.name›]; exact fun _ _ => rfl))) <| V (run_eqlB underlying4 rfl rfl) <| V (run_pickT (bT ((by rw [get_with_other _ ‹¬ o = x.name›]; exact fun _ _ => rfl))) (v := B _) rfl) <| mB rfl <| gT rfl (bR (c := true) ((by rw [get_with_other _ ‹¬ o = x.name›]; exact beq_self_eq_true _))) <| RL.callP rfl hH100 (c_clearancelaw18_alive   _ (hT.hp hH100)) (run_call0 call5) <| fun w105 hH106 => V (run_pickT (bR (c := true) ((by rw [get_with_other _ ‹¬ o = x.name›]; exact beq_self_eq_true _))) (v := B _) rfl) <| aB rfl <| RL.nil <| CW.ret <| outP1 Tryd.results3 (congrArg B ?_) hH106.below
     rfl
end Go.Proofs.YtieckcbckgalhaaDoor.W
