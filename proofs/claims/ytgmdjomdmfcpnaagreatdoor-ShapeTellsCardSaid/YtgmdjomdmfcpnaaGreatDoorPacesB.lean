/-
  The walks of the functions that the laws of this seat reach, part 2: each returns what its plain counterpart tells, and turns nothing that was there.
-/
import Derived.Test.YtgmdjomdmfcpnaaGreatDoorProg
import Derived.Test.YtgmdjomdmfcpnaaGreatDoorEnv
import Derived.Test.YtgmdjomdmfcpnaaGreatDoorPlain
import Derived.Test.YtgmdjomdmfcpnaaGreatDoorBase
import Derived.Test.YtgmdjomdmfcpnaaGreatDoorOrd
import Derived.Test.YtgmdjomdmfcpnaaGreatDoorRel
import Derived.Test.YtgmdjomdmfcpnaaGreatDoorClo
import Derived.Test.YtgmdjomdmfcpnaaGreatDoorCov
import Derived.Test.YtgmdjomdmfcpnaaGreatDoorArr
import Derived.Test.YtgmdjomdmfcpnaaGreatDoorHas
import Derived.Test.YtgmdjomdmfcpnaaGreatDoorGrd
import Derived.Test.YtgmdjomdmfcpnaaGreatDoorStr
import Derived.Test.YtgmdjomdmfcpnaaGreatDoorVu
import Derived.Test.YtgmdjomdmfcpnaaGreatDoorShp
import Derived.Test.YtgmdjomdmfcpnaaGreatDoorShl
import Derived.Test.YtgmdjomdmfcpnaaGreatDoorShq
import Derived.Test.YtgmdjomdmfcpnaaGreatDoorShr
import Derived.Test.YtgmdjomdmfcpnaaGreatDoorPacesA
namespace Go.Proofs.YtgmdjomdmfcpnaaGreatDoor.W
open Go Go.RowKit Go.Proofs.YtgmdjomdmfcpnaaGreatDoor.E Go.Proofs.YtgmdjomdmfcpnaaGreatDoor.M
set_option linter.unusedVariables false
set_option linter.unusedSimpArgs false
set_option maxRecDepth 100000

theorem c_hasse_Raise (r : Rl) (a b : BitVec 64) (w : World) (hT : Tab w) : Calls Tryz.prog 45 #[.agg (relC r), U a, U b] w (Pure (U (raiseV r a b)) w) := by
  refine enter Tryz.func45 rfl Tryz.ntmps45 rfl ?_
  have hH := Hp.start w
  refine CW.seq ?_
  refine CW.region ?_
  refine RL.new rfl hH (f := fun b => (.pointer (some ⟨b, 0, none⟩))) (run_box (v := .agg _) rfl) ?_
  intro b3 w1 hH2
  refine RL.val rfl (run_assign (v := U 0#64) rfl) ?_
  refine RL.nil ?_
  refine CW.seq ?_
  refine CW.seq ?_
  refine CW.region ?_
  refine RL.val rfl (run_ldRel Tryz.underlying42 rfl rfl rfl (hH2.blk (i := 0) rfl)) ?_
  refine RL.val rfl (run_move (v := U _) rfl) ?_
  refine RL.callP rfl hH2 (c_hasse_Point _ _  _ (hT.hp hH2)) (run_call2 Tryz.call73 rfl rfl) ?_
  intro w4 hH5
  refine RL.val rfl (run_move (by conv => lhs; whnf)) ?_
  refine RL.val rfl (run_extract rfl (v := I _) rfl) ?_
  refine RL.val rfl (run_extract rfl (v := B _) rfl) ?_
  refine RL.val rfl (run_assign (v := I _) rfl) ?_
  refine RL.val rfl (run_assign (v := B _) rfl) ?_
  refine RL.nil ?_
  refine CW.seq ?_
  refine CW.region ?_
  refine RL.val rfl (run_move (v := B _) rfl) ?_
  refine RL.nil ?_
  refine CW.cond rfl (fun h7 => ?_) (fun h7 => ?_)
  · refine CW.seq ?_
    refine CW.region ?_
    refine RL.val rfl (run_ldRel Tryz.underlying42 rfl rfl rfl (hH5.blk (i := 0) rfl)) ?_
    refine RL.val rfl (run_move (v := U _) rfl) ?_
    refine RL.callP rfl hH5 (c_hasse_Point _ _  _ (hT.hp hH5)) (run_call2 Tryz.call73 rfl rfl) ?_
    intro w8 hH9
    refine RL.val rfl (run_move (by conv => lhs; whnf)) ?_
    refine RL.val rfl (run_extract rfl (v := I _) rfl) ?_
    refine RL.val rfl (run_extract rfl (v := B _) rfl) ?_
    refine RL.val rfl (run_assign (v := I _) rfl) ?_
    refine RL.val rfl (run_assign (v := B _) rfl) ?_
    refine RL.nil ?_
    refine CW.seq ?_
    refine CW.region ?_
    refine RL.val rfl (run_move (v := B _) rfl) ?_
    refine RL.nil ?_
    refine CW.cond rfl (fun h11 => ?_) (fun h11 => ?_)
    · refine CW.seq ?_
      refine CW.region ?_
      refine RL.val rfl (run_ldRel Tryz.underlying42 rfl rfl rfl (hH9.blk (i := 0) rfl)) ?_
      refine RL.val rfl (run_move (v := I _) rfl) ?_
      refine RL.val rfl (run_move (v := I _) rfl) ?_
      refine RL.callP rfl hH9 (c_hasse_Join _ _ _  _ (hT.hp hH9)) (run_call3 Tryz.call79 rfl rfl rfl) ?_
      intro w12 hH13
      refine RL.val rfl (run_move (by conv => lhs; whnf)) ?_
      refine RL.val rfl (run_extract rfl (v := I _) rfl) ?_
      refine RL.val rfl (run_extract rfl (v := B _) rfl) ?_
      refine RL.val rfl (run_assign (v := I _) rfl) ?_
      refine RL.val rfl (run_assign (v := B _) rfl) ?_
      refine RL.nil ?_
      refine CW.seq ?_
      refine CW.region ?_
      refine RL.val rfl (run_move (v := B _) rfl) ?_
      refine RL.nil ?_
      refine CW.cond rfl (fun h15 => ?_) (fun h15 => ?_)
      · refine CW.seq ?_
        refine CW.region ?_
        refine RL.val rfl (run_ldRel Tryz.underlying42 rfl rfl rfl (hH13.blk (i := 0) rfl)) ?_
        refine RL.val rfl (run_move (v := I _) rfl) ?_
        refine RL.callP rfl hH13 (c_hasse_Word _ _  _ (hT.hp hH13)) (run_call2 Tryz.call60 rfl rfl) ?_
        intro w16 hH17
        refine RL.val rfl (run_assign (v := U _) rfl) ?_
        refine RL.nil ?_
        refine CW.ret ?_
        refine outP1 Tryz.results45 (congrArg U ?_) hH17.below
        first | rw [raise_yes ‹_› ‹_› ‹_›] | rw [raise_no1 ‹_›] | rw [raise_no2 ‹_›] | rw [raise_no3 ‹_›]
      · refine CW.skip ?_
        refine CW.seq ?_
        refine CW.region ?_
        refine RL.val rfl (run_move (v := U _) rfl) ?_
        refine RL.val rfl (run_move (v := U _) rfl) ?_
        refine RL.val rfl (run_orU rfl rfl) ?_
        refine RL.val rfl (run_assign (v := U _) rfl) ?_
        refine RL.nil ?_
        refine CW.ret ?_
        refine outP1 Tryz.results45 (congrArg U ?_) hH13.below
        first | rw [raise_yes ‹_› ‹_› ‹_›] | rw [raise_no1 ‹_›] | rw [raise_no2 ‹_›] | rw [raise_no3 ‹_›]
    · refine CW.skip ?_
      refine CW.seq ?_
      refine CW.region ?_
      refine RL.val rfl (run_move (v := U _) rfl) ?_
      refine RL.val rfl (run_move (v := U _) rfl) ?_
      refine RL.val rfl (run_orU rfl rfl) ?_
      refine RL.val rfl (run_assign (v := U _) rfl) ?_
      refine RL.nil ?_
      refine CW.ret ?_
      refine outP1 Tryz.results45 (congrArg U ?_) hH9.below
      first | rw [raise_yes ‹_› ‹_› ‹_›] | rw [raise_no1 ‹_›] | rw [raise_no2 ‹_›] | rw [raise_no3 ‹_›]
  · refine CW.skip ?_
    refine CW.seq ?_
    refine CW.region ?_
    refine RL.val rfl (run_move (v := U _) rfl) ?_
    refine RL.val rfl (run_move (v := U _) rfl) ?_
    refine RL.val rfl (run_orU rfl rfl) ?_
    refine RL.val rfl (run_assign (v := U _) rfl) ?_
    refine RL.nil ?_
    refine CW.ret ?_
    refine outP1 Tryz.results45 (congrArg U ?_) hH5.below
    first | rw [raise_yes ‹_› ‹_› ‹_›] | rw [raise_no1 ‹_›] | rw [raise_no2 ‹_›] | rw [raise_no3 ‹_›]

theorem c_hasse_end (r : Rl) (f : FuncId) (gg : Int → BitVec 64) (w : World) (hf : ∀ args w, (callFunc f args).run Tryz.prog w = .ok (.enter f args) w) (go : ∀ i w, Tab w → Calls Tryz.prog f #[.agg (relC r), I i] w (Pure (U (gg i)) w)) (hT : Tab w) : Calls Tryz.prog 93 #[.agg (relC r), .func (.func f) #[] #[]] w (Pure (.tuple #[I (endV r gg).1, B (endV r gg).2]) w) := by
  have hp := pts_bd r
  have hnn : (newR r.n).n = pts r := rfl
  refine enter Tryz.func93 rfl Tryz.ntmps93 rfl ?_
  have hH := Hp.start w
  refine CW.seq ?_
  refine CW.region ?_
  refine RL.new rfl hH (f := fun b => (.pointer (some ⟨b, 0, none⟩))) (run_box (v := .agg _) rfl) ?_
  intro b3 w1 hH2
  refine RL.val rfl (run_assign (v := I 0) rfl) ?_
  refine RL.val rfl (run_assign (v := B false) rfl) ?_
  refine RL.nil ?_
  refine CW.seq ?_
  refine CW.region ?_
  refine RL.val rfl (run_fieldAddr Tryz.underlying42 rfl (off := 0) rfl Tryz.sizeOf3 (by decide) rfl) ?_
  refine RL.val rfl (run_ld Tryz.underlying3 rfl rfl (hH2.cell (i := 0) rfl (relC_N _))) ?_
  refine RL.callP rfl hH2 (c_relate_New _  _) (run_call1 Tryz.call106 rfl) ?_
  intro w4 hH5
  refine RL.val rfl (run_field Tryz.underlying42 rfl Tryz.isAgg3 rfl (relC_N _)) ?_
  refine RL.val rfl (run_assign (v := I _) rfl) ?_
  refine RL.nil ?_
  refine CW.seq ?_
  refine CW.seq ?_
  refine CW.region ?_
  refine RL.val rfl (run_move (v := I _) rfl) ?_
  refine RL.val rfl (run_move (v := I 0) rfl) ?_
  refine RL.nil ?_
  refine CW.block ?_
  refine CW.loop (G := (Int)) (fun (k : Int) s' w' => (Fr [4, 5, 7, 13, 14, 15, 16, 17, 18, 19, 20, 21, 22, 23, 24] _ s') ∧ (Hp w w' _) ∧ (s' 13 = I k) ∧ (0 ≤ k) ∧ (k ≤ pts r) ∧ (∀ j : Int, 0 ≤ j → j < k → gg j ≠ below (pts r))) (fun (k : Int) => (pts r - k).toNat) (0) ⟨Fr.refl _ _, hH5, rfl, (by omega), (by omega), fun j x y => absurd y (by omega)⟩ ?_
  rintro k sg6 w6 ⟨fr6, hH6, e13_6, h0, hk, hg⟩
  have e1_6 : sg6 1 = .func _ _ _ := (fr6 1 rfl).trans rfl
  have e2_6 : sg6 2 = .pointer (some ⟨_, _, none⟩) := (fr6 2 rfl).trans rfl
  have e6_6 : sg6 6 = I _ := (fr6 6 rfl).trans rfl
  have e12_6 : sg6 12 = I _ := (fr6 12 rfl).trans rfl
  refine CW.seq ?_
  refine CW.region ?_
  refine RL.val rfl (run_lss e13_6 e12_6) ?_
  refine RL.nil ?_
  refine CW.seq ?_
  refine CW.condP rfl (fun h8 => ?_) (fun h8 => ?_)
  · refine CW.skip ?_
    refine CW.seq ?_
    refine CW.block ?_
    refine CW.seq ?_
    refine CW.region ?_
    refine RL.val rfl (run_move e13_6) ?_
    refine RL.val rfl (run_assign (v := I _) rfl) ?_
    refine RL.nil ?_
    refine CW.seq ?_
    refine CW.region ?_
    refine RL.val rfl (run_move e1_6) ?_
    refine RL.val rfl (run_ldRel Tryz.underlying42 rfl rfl e2_6 (hH6.blk (i := 0) rfl)) ?_
    refine RL.val rfl (run_move (v := I _) rfl) ?_
    refine RL.callP rfl hH6 (go _ _ (hT.hp hH6)) (run_callC2 hf (cs := []) rfl rfl rfl) ?_
    intro w9 hH10
    refine RL.val rfl (run_move e6_6) ?_
    refine RL.callP rfl hH10 (c_mask_Below _  _) (run_call1 Tryz.call64 rfl) ?_
    intro w11 hH12
    refine RL.val rfl (run_eqlU rfl rfl) ?_
    refine RL.nil ?_
    refine CW.condP rfl (fun h14 => ?_) (fun h14 => ?_)
    · refine CW.seq ?_
      refine CW.region ?_
      refine RL.val rfl (run_move (v := I _) rfl) ?_
      refine RL.val rfl (run_assign (v := I _) rfl) ?_
      refine RL.val rfl (run_assign (v := B true) rfl) ?_
      refine RL.nil ?_
      refine CW.ret ?_
      refine outP2 Tryz.results93 (congrArg I ?_) (congrArg B ?_) hH12.below <;> rw [end_yes h0 (by omega) ‹_› hg]
    · refine CW.skip ?_
      refine CW.region ?_
      refine RL.val rfl (run_add e13_6 rfl (by omega)) ?_
      refine RL.val rfl (run_move (v := I _) rfl) ?_
      refine RL.nil ?_
      refine ⟨k + 1, ?_, (((((((((((fr6.u rfl).u rfl).u rfl).u rfl).u rfl).u rfl).u rfl).u rfl).u rfl).u rfl).u rfl).u rfl, hH12, (congrArg I (by first | rfl | omega)), ?_, ?_, ?_⟩
      · ((try dsimp only); omega)
      · omega
      · omega
      · exact fun j x y => if e : j = k then e ▸ ‹¬ gg k = below _› else hg j x (by omega)
  · refine CW.exit (id := 0) rfl ?_
    refine CW.seq ?_
    refine CW.region ?_
    refine RL.val rfl (run_assign (v := I 0) rfl) ?_
    refine RL.val rfl (run_assign (v := B false) rfl) ?_
    refine RL.nil ?_
    refine CW.ret ?_
    refine outP2 Tryz.results93 (congrArg I ?_) (congrArg B ?_) hH6.below <;> rw [end_no (by omega) hg]

theorem c_hasse_Bottom (r : Rl) (w : World) (hT : Tab w) : Calls Tryz.prog 59 #[.agg (relC r)] w (Pure (.tuple #[I (endV r (aboveR r)).1, B (endV r (aboveR r)).2]) w) := by
  refine enter Tryz.func59 rfl Tryz.ntmps59 rfl ?_
  have hH := Hp.start w
  refine CW.seq ?_
  refine CW.region ?_
  refine RL.new rfl hH (f := fun b => (.pointer (some ⟨b, 0, none⟩))) (run_box (v := .agg _) rfl) ?_
  intro b3 w1 hH2
  refine RL.val rfl (run_assign (v := I 0) rfl) ?_
  refine RL.val rfl (run_assign (v := B false) rfl) ?_
  refine RL.nil ?_
  refine CW.seq ?_
  refine CW.region ?_
  refine RL.val rfl (run_ldRel Tryz.underlying42 rfl rfl rfl (hH2.blk (i := 0) rfl)) ?_
  refine RL.callP rfl hH2 (c_hasse_end r 94 (aboveR r) _ Tryz.call94 (fun i w h => c_hasse_above r i w h) (hT.hp hH2)) (run_call2 Tryz.call93 rfl rfl) ?_
  intro w4 hH5
  refine RL.val rfl (run_extract rfl (v := I _) rfl) ?_
  refine RL.val rfl (run_extract rfl (v := B _) rfl) ?_
  refine RL.val rfl (run_assign (v := I _) rfl) ?_
  refine RL.val rfl (run_assign (v := B _) rfl) ?_
  refine RL.nil ?_
  refine CW.ret ?_
  refine outP2 Tryz.results59 (congrArg I ?_) (congrArg B ?_) hH5.below
  all_goals rfl

theorem c_hasse_Top (r : Rl) (w : World) (hT : Tab w) : Calls Tryz.prog 66 #[.agg (relC r)] w (Pure (.tuple #[I (endV r (belowR r)).1, B (endV r (belowR r)).2]) w) := by
  refine enter Tryz.func66 rfl Tryz.ntmps66 rfl ?_
  have hH := Hp.start w
  refine CW.seq ?_
  refine CW.region ?_
  refine RL.new rfl hH (f := fun b => (.pointer (some ⟨b, 0, none⟩))) (run_box (v := .agg _) rfl) ?_
  intro b3 w1 hH2
  refine RL.val rfl (run_assign (v := I 0) rfl) ?_
  refine RL.val rfl (run_assign (v := B false) rfl) ?_
  refine RL.nil ?_
  refine CW.seq ?_
  refine CW.region ?_
  refine RL.val rfl (run_ldRel Tryz.underlying42 rfl rfl rfl (hH2.blk (i := 0) rfl)) ?_
  refine RL.callP rfl hH2 (c_hasse_end r 95 (belowR r) _ Tryz.call95 (fun i w h => c_hasse_below r i w h) (hT.hp hH2)) (run_call2 Tryz.call93 rfl rfl) ?_
  intro w4 hH5
  refine RL.val rfl (run_extract rfl (v := I _) rfl) ?_
  refine RL.val rfl (run_extract rfl (v := B _) rfl) ?_
  refine RL.val rfl (run_assign (v := I _) rfl) ?_
  refine RL.val rfl (run_assign (v := B _) rfl) ?_
  refine RL.nil ?_
  refine CW.ret ?_
  refine outP2 Tryz.results66 (congrArg I ?_) (congrArg B ?_) hH5.below
  all_goals rfl

theorem c_hasse_Lattice (r : Rl) (w : World) (hT : Tab w) : Calls Tryz.prog 51 #[.agg (relC r)] w (Pure (B (latB r)) w) := by
  have hp := pts_bd r
  refine enter Tryz.func51 rfl Tryz.ntmps51 rfl ?_
  have hH := Hp.start w
  refine CW.seq ?_
  refine CW.region ?_
  refine RL.new rfl hH (f := fun b => (.pointer (some ⟨b, 0, none⟩))) (run_box (v := .agg _) rfl) ?_
  intro b3 w1 hH2
  refine RL.val rfl (run_assign (v := B false) rfl) ?_
  refine RL.nil ?_
  refine CW.seq ?_
  refine CW.seq ?_
  refine CW.region ?_
  refine RL.val rfl (run_fieldAddr Tryz.underlying42 rfl (off := 0) rfl Tryz.sizeOf3 (by decide) rfl) ?_
  refine RL.val rfl (run_ld Tryz.underlying3 rfl rfl (hH2.cell (i := 0) rfl (relC_N _))) ?_
  refine RL.val rfl (run_lss rfl rfl) ?_
  refine RL.val rfl (run_move (v := B _) rfl) ?_
  refine RL.splitP (dj := 12) rfl (fun h5 => ?_) (fun h5 => ?_)
  · refine RL.gF rfl rfl (bT h5) rfl ?_
    refine RL.gF rfl rfl (bT h5) rfl ?_
    refine RL.gF rfl rfl (bT h5) rfl ?_
    refine RL.val rfl (run_pickT (bT h5) (v := B true) rfl) ?_
    refine RL.val rfl (run_move (v := B _) rfl) ?_
    refine RL.gF rfl rfl rfl rfl ?_
    refine RL.gF rfl rfl rfl rfl ?_
    refine RL.gF rfl rfl rfl rfl ?_
    refine RL.val rfl (run_pickT rfl (v := B true) rfl) ?_
    refine RL.nil ?_
    refine CW.condT rfl ?_
    refine CW.seq ?_
    refine CW.region ?_
    refine RL.val rfl (run_assign (v := B false) rfl) ?_
    refine RL.nil ?_
    refine CW.ret ?_
    refine outP1 Tryz.results51 (congrArg B ?_) hH2.below
    first | exact (lat_no1 (by omega)).symm | exact (lat_no2 (nt ‹_›)).symm | exact (lat_no3 ‹i < r.n› j0 ‹j < i› (by rw [bothB, nt ‹(!(joinV r i j).2) = true›]; rfl)).symm | exact (lat_no3 ‹i < r.n› j0 ‹j < i› (by rw [bothB, nt ‹(!(meetV r i j).2) = true›]; simp)).symm | exact (lat_yes hn ho ‹_› hg).symm
  · refine RL.gT rfl (bF h5) ?_
    refine RL.val rfl (run_fieldAddr Tryz.underlying42 rfl (off := 0) rfl Tryz.sizeOf3 (by decide) rfl) ?_
    refine RL.gT rfl (bF h5) ?_
    refine RL.val rfl (run_ld Tryz.underlying3 rfl rfl (hH2.cell (i := 0) rfl (relC_N _))) ?_
    refine RL.gT rfl (bF h5) ?_
    refine RL.val rfl (run_gtr rfl rfl) ?_
    refine RL.val rfl (run_pickF (bF h5) (v := B _) rfl) ?_
    refine RL.val rfl (run_move (v := B _) rfl) ?_
    refine RL.splitP (dj := 17) rfl (fun h7 => ?_) (fun h7 => ?_)
    · refine RL.gF rfl rfl (bT h7) rfl ?_
      refine RL.gF rfl rfl (bT h7) rfl ?_
      refine RL.gF rfl rfl (bT h7) rfl ?_
      refine RL.val rfl (run_pickT (bT h7) (v := B true) rfl) ?_
      refine RL.nil ?_
      refine CW.condT rfl ?_
      refine CW.seq ?_
      refine CW.region ?_
      refine RL.val rfl (run_assign (v := B false) rfl) ?_
      refine RL.nil ?_
      refine CW.ret ?_
      refine outP1 Tryz.results51 (congrArg B ?_) hH2.below
      first | exact (lat_no1 (by omega)).symm | exact (lat_no2 (nt ‹_›)).symm | exact (lat_no3 ‹i < r.n› j0 ‹j < i› (by rw [bothB, nt ‹(!(joinV r i j).2) = true›]; rfl)).symm | exact (lat_no3 ‹i < r.n› j0 ‹j < i› (by rw [bothB, nt ‹(!(meetV r i j).2) = true›]; simp)).symm | exact (lat_yes hn ho ‹_› hg).symm
    · refine RL.gT rfl (bF h7) ?_
      refine RL.val rfl (run_ldRel Tryz.underlying42 rfl rfl rfl (hH2.blk (i := 0) rfl)) ?_
      refine RL.gT rfl (bF h7) ?_
      refine RL.callP rfl hH2 (c_relate_Order _  _ (hT.hp hH2)) (run_call1 Tryz.call85 rfl) ?_
      intro w8 hH9
      refine RL.gT rfl (bF h7) ?_
      refine RL.val rfl (run_not rfl) ?_
      refine RL.val rfl (run_pickF (bF h7) (v := B _) rfl) ?_
      refine RL.nil ?_
      refine CW.cond rfl (fun h12 => ?_) (fun h12 => ?_)
      · refine CW.seq ?_
        refine CW.region ?_
        refine RL.val rfl (run_assign (v := B false) rfl) ?_
        refine RL.nil ?_
        refine CW.ret ?_
        refine outP1 Tryz.results51 (congrArg B ?_) hH9.below
        first | exact (lat_no1 (by omega)).symm | exact (lat_no2 (nt ‹_›)).symm | exact (lat_no3 ‹i < r.n› j0 ‹j < i› (by rw [bothB, nt ‹(!(joinV r i j).2) = true›]; rfl)).symm | exact (lat_no3 ‹i < r.n› j0 ‹j < i› (by rw [bothB, nt ‹(!(meetV r i j).2) = true›]; simp)).symm | exact (lat_yes hn ho ‹_› hg).symm
      · refine CW.skip ?_
        refine CW.seq ?_
        refine CW.seq ?_
        refine CW.region ?_
        refine RL.val rfl (run_fieldAddr Tryz.underlying42 rfl (off := 0) rfl Tryz.sizeOf3 (by decide) rfl) ?_
        refine RL.val rfl (run_ld Tryz.underlying3 rfl rfl (hH9.cell (i := 0) rfl (relC_N _))) ?_
        refine RL.val rfl (run_move (v := I 0) rfl) ?_
        refine RL.nil ?_
        refine CW.block ?_
        have hn : 1 ≤ r.n ∧ r.n ≤ 64 := by omega
        have ho : orderB r = true := nf ‹_›
        refine CW.loop (G := (Int)) (fun (i : Int) s' w' => (Fr [2, 3, 4, 5, 6, 7, 8, 24, 25, 26, 27, 28, 29, 30, 31, 32, 33, 34, 35, 36, 37, 38, 39, 40, 41, 42, 43, 44, 45, 46, 47, 48, 49, 50, 51, 52] _ s') ∧ (Hp w w' _) ∧ (s' 24 = I i) ∧ (0 ≤ i) ∧ (i ≤ r.n) ∧ (∀ a b : Int, 0 ≤ b → b < a → a < i → bothB r a b = true)) (fun (i : Int) => (r.n - i).toNat) (0) ⟨Fr.refl _ _, hH9, rfl, (by omega), (by omega), fun a b x y z => absurd z (by omega)⟩ ?_
        rintro i sg13 w13 ⟨fr13, hH13, e24_13, i0, i1, hg⟩
        have e1_13 : sg13 1 = .pointer (some ⟨_, _, none⟩) := (fr13 1 rfl).trans rfl
        have e23_13 : sg13 23 = I _ := (fr13 23 rfl).trans rfl
        refine CW.seq ?_
        refine CW.region ?_
        refine RL.val rfl (run_lss e24_13 e23_13) ?_
        refine RL.nil ?_
        refine CW.seq ?_
        refine CW.condP rfl (fun h15 => ?_) (fun h15 => ?_)
        · refine CW.skip ?_
          refine CW.seq ?_
          refine CW.block ?_
          refine CW.seq ?_
          refine CW.region ?_
          refine RL.val rfl (run_move e24_13) ?_
          refine RL.val rfl (run_assign (v := I _) rfl) ?_
          refine RL.nil ?_
          refine CW.seq ?_
          refine CW.region ?_
          refine RL.val rfl (run_move (v := I _) rfl) ?_
          refine RL.val rfl (run_move (v := I 0) rfl) ?_
          refine RL.nil ?_
          refine CW.block ?_
          refine CW.loop (G := (Int)) (fun (j : Int) s' w' => (Fr [2, 4, 5, 6, 7, 8, 28, 29, 30, 31, 32, 33, 34, 35, 36, 37, 38, 39, 40, 41, 42, 43, 44, 45, 46, 47, 48, 49, 50, 51] _ s') ∧ (Hp w w' _) ∧ (s' 28 = I j) ∧ (0 ≤ j) ∧ (j ≤ i) ∧ (∀ b : Int, 0 ≤ b → b < j → bothB r i b = true)) (fun (j : Int) => (i - j).toNat) (0) ⟨Fr.refl _ _, hH13, rfl, (by omega), (by omega), fun b x y => absurd y (by omega)⟩ ?_
          rintro j sg16 w16 ⟨fr16, hH16, e28_16, j0, j1, hh⟩
          have e1_16 := (fr16 1 rfl).trans e1_13
          have e3_16 : sg16 3 = I _ := (fr16 3 rfl).trans rfl
          have e23_16 := (fr16 23 rfl).trans e23_13
          have e24_16 := (fr16 24 rfl).trans e24_13
          have e25_16 : sg16 25 = B _ := (fr16 25 rfl).trans rfl
          have e26_16 : sg16 26 = I _ := (fr16 26 rfl).trans rfl
          have e27_16 : sg16 27 = I _ := (fr16 27 rfl).trans rfl
          refine CW.seq ?_
          refine CW.region ?_
          refine RL.val rfl (run_lss e28_16 e27_16) ?_
          refine RL.nil ?_
          refine CW.seq ?_
          refine CW.condP rfl (fun h18 => ?_) (fun h18 => ?_)
          · refine CW.skip ?_
            refine CW.seq ?_
            refine CW.block ?_
            refine CW.seq ?_
            refine CW.region ?_
            refine RL.val rfl (run_move e28_16) ?_
            refine RL.val rfl (run_assign (v := I _) rfl) ?_
            refine RL.nil ?_
            refine CW.seq ?_
            refine CW.region ?_
            refine RL.val rfl (run_ldRel Tryz.underlying42 rfl rfl e1_16 (hH16.blk (i := 0) rfl)) ?_
            refine RL.val rfl (run_move e3_16) ?_
            refine RL.val rfl (run_move (v := I _) rfl) ?_
            refine RL.callP rfl hH16 (c_hasse_Join _ _ _  _ (hT.hp hH16)) (run_call3 Tryz.call79 rfl rfl rfl) ?_
            intro w19 hH20
            refine RL.val rfl (run_move (by conv => lhs; whnf)) ?_
            refine RL.val rfl (run_extract rfl (v := I _) rfl) ?_
            refine RL.val rfl (run_extract rfl (v := B _) rfl) ?_
            refine RL.val rfl (run_assign (v := I _) rfl) ?_
            refine RL.val rfl (run_assign (v := B _) rfl) ?_
            refine RL.nil ?_
            refine CW.seq ?_
            refine CW.region ?_
            refine RL.val rfl (run_ldRel Tryz.underlying42 rfl rfl e1_16 (hH20.blk (i := 0) rfl)) ?_
            refine RL.val rfl (run_move e3_16) ?_
            refine RL.val rfl (run_move (v := I _) rfl) ?_
            refine RL.callP rfl hH20 (c_hasse_Meet _ _ _  _ (hT.hp hH20)) (run_call3 Tryz.call86 rfl rfl rfl) ?_
            intro w22 hH23
            refine RL.val rfl (run_move (by conv => lhs; whnf)) ?_
            refine RL.val rfl (run_extract rfl (v := I _) rfl) ?_
            refine RL.val rfl (run_extract rfl (v := B _) rfl) ?_
            refine RL.val rfl (run_assign (v := I _) rfl) ?_
            refine RL.val rfl (run_assign (v := B _) rfl) ?_
            refine RL.nil ?_
            refine CW.seq ?_
            refine CW.region ?_
            refine RL.val rfl (run_move (v := B _) rfl) ?_
            refine RL.val rfl (run_not rfl) ?_
            refine RL.val rfl (run_move (v := B _) rfl) ?_
            refine RL.split (dj := 47) rfl (fun h26 => ?_) (fun h26 => ?_)
            · refine RL.gF rfl rfl (bR (c := true) h26) rfl ?_
              refine RL.gF rfl rfl (bR (c := true) h26) rfl ?_
              refine RL.val rfl (run_pickT (bR (c := true) h26) (v := B true) rfl) ?_
              refine RL.nil ?_
              refine CW.condT rfl ?_
              refine CW.seq ?_
              refine CW.region ?_
              refine RL.val rfl (run_assign (v := B false) rfl) ?_
              refine RL.nil ?_
              refine CW.ret ?_
              refine outP1 Tryz.results51 (congrArg B ?_) hH23.below
              first | exact (lat_no1 (by omega)).symm | exact (lat_no2 (nt ‹_›)).symm | exact (lat_no3 ‹i < r.n› j0 ‹j < i› (by rw [bothB, nt ‹(!(joinV r i j).2) = true›]; rfl)).symm | exact (lat_no3 ‹i < r.n› j0 ‹j < i› (by rw [bothB, nt ‹(!(meetV r i j).2) = true›]; simp)).symm | exact (lat_yes hn ho ‹_› hg).symm
            · refine RL.gT rfl (bR (c := false) h26) ?_
              refine RL.val rfl (run_move (v := B _) rfl) ?_
              refine RL.gT rfl (bR (c := false) h26) ?_
              refine RL.val rfl (run_not rfl) ?_
              refine RL.val rfl (run_pickF (bR (c := false) h26) (v := B _) rfl) ?_
              refine RL.nil ?_
              refine CW.cond rfl (fun h28 => ?_) (fun h28 => ?_)
              · refine CW.seq ?_
                refine CW.region ?_
                refine RL.val rfl (run_assign (v := B false) rfl) ?_
                refine RL.nil ?_
                refine CW.ret ?_
                refine outP1 Tryz.results51 (congrArg B ?_) hH23.below
                first | exact (lat_no1 (by omega)).symm | exact (lat_no2 (nt ‹_›)).symm | exact (lat_no3 ‹i < r.n› j0 ‹j < i› (by rw [bothB, nt ‹(!(joinV r i j).2) = true›]; rfl)).symm | exact (lat_no3 ‹i < r.n› j0 ‹j < i› (by rw [bothB, nt ‹(!(meetV r i j).2) = true›]; simp)).symm | exact (lat_yes hn ho ‹_› hg).symm
              · refine CW.skip ?_
                refine CW.region ?_
                refine RL.val rfl (run_add e28_16 rfl (by omega)) ?_
                refine RL.val rfl (run_move (v := I _) rfl) ?_
                refine RL.nil ?_
                refine ⟨j + 1, ?_, ((((((((((((((((((((((((((((fr16.u rfl).u rfl).u rfl).u rfl).u rfl).u rfl).u rfl).u rfl).u rfl).u rfl).u rfl).u rfl).u rfl).u rfl).u rfl).u rfl).u rfl).u rfl).u rfl).u rfl).u rfl).u rfl).u rfl).u rfl).u rfl).u rfl).u rfl).u rfl).u rfl, hH23, (congrArg I (by first | rfl | omega)), ?_, ?_, ?_⟩
                · ((try dsimp only); omega)
                · omega
                · omega
                · exact fun b x y => if e : b = j then e ▸ (by rw [bothB, Bool.and_eq_true]; exact ⟨nf ‹(!(joinV r i j).2) = false›, nf ‹(!(meetV r i j).2) = false›⟩) else hh b x (by omega)
          · refine CW.exit (id := 2) rfl ?_
            refine CW.region ?_
            refine RL.val rfl (run_add e24_16 rfl (by omega)) ?_
            refine RL.val rfl (run_move (v := I _) rfl) ?_
            refine RL.nil ?_
            refine ⟨i + 1, ?_, (((((((((fr13.u rfl).u rfl).u rfl).u rfl).u rfl).t fr16 rfl)).u rfl).u rfl).u rfl, hH16, (congrArg I (by first | rfl | omega)), ?_, ?_, ?_⟩
            · ((try dsimp only); omega)
            · omega
            · omega
            · exact fun a b x y z => if e : a = i then e ▸ hh b x (by omega) else hg a b x y (by omega)
        · refine CW.exit (id := 0) rfl ?_
          refine CW.seq ?_
          refine CW.region ?_
          refine RL.val rfl (run_assign (v := B true) rfl) ?_
          refine RL.nil ?_
          refine CW.ret ?_
          refine outP1 Tryz.results51 (congrArg B ?_) hH13.below
          first | exact (lat_no1 (by omega)).symm | exact (lat_no2 (nt ‹_›)).symm | exact (lat_no3 ‹i < r.n› j0 ‹j < i› (by rw [bothB, nt ‹(!(joinV r i j).2) = true›]; rfl)).symm | exact (lat_no3 ‹i < r.n› j0 ‹j < i› (by rw [bothB, nt ‹(!(meetV r i j).2) = true›]; simp)).symm | exact (lat_yes hn ho ‹_› hg).symm

theorem c_clearanceref06_Join (r : Rl) (i j : Int) (w : World) : Calls Tryz.prog 80 #[.agg (relC r), I i, I j] w (Pure (.tuple #[I (joinV r i j).1, B (joinV r i j).2]) w) := by
  have hp := pts_bd r
  refine enter Tryz.func80 rfl Tryz.ntmps80 rfl ?_
  have hH := Hp.start w
  refine CW.seq ?_
  refine CW.region ?_
  refine RL.new rfl hH (f := fun b => (.pointer (some ⟨b, 0, none⟩))) (run_box (v := .agg _) rfl) ?_
  intro b3 w1 hH2
  refine RL.val rfl (run_assign (v := I 0) rfl) ?_
  refine RL.val rfl (run_assign (v := B false) rfl) ?_
  refine RL.nil ?_
  refine CW.seq ?_
  refine CW.seq ?_
  refine CW.region ?_
  refine RL.val rfl (run_assign (v := I 0) rfl) ?_
  refine RL.nil ?_
  refine CW.block ?_
  refine CW.loop (G := (Int)) (fun (u : Int) s' w' => (Fr [6, 7, 8, 9, 10, 11, 12, 13, 14, 15, 16, 17, 18, 19, 20, 21, 22, 23, 24, 25, 26, 27, 28, 29, 30, 31, 32, 33, 34, 35, 36, 37, 38, 39, 40, 41, 42, 43, 44, 45, 46, 47, 48, 49, 50, 51] _ s') ∧ (Hp w w' _) ∧ (s' 8 = I u) ∧ (0 ≤ u) ∧ (u ≤ pts r) ∧ (∀ x : Int, 0 ≤ x → x < u → nearP (aboveR r) i j x = false)) (fun (u : Int) => (pts r - u).toNat) (0) ⟨Fr.refl _ _, hH2, rfl, (by omega), (by omega), fun x a b => absurd b (by omega)⟩ ?_
  rintro u sg4 w4 ⟨fr4, hH4, e8_4, u0, u1, hg⟩
  have e1_4 : sg4 1 = I _ := (fr4 1 rfl).trans rfl
  have e2_4 : sg4 2 = I _ := (fr4 2 rfl).trans rfl
  have e3_4 : sg4 3 = .pointer (some ⟨_, _, none⟩) := (fr4 3 rfl).trans rfl
  refine CW.seq ?_
  refine CW.seq ?_
  refine CW.region ?_
  refine RL.val rfl (run_move e8_4) ?_
  refine RL.val rfl (run_ldRel Tryz.underlying42 rfl rfl e3_4 (hH4.blk (i := 0) rfl)) ?_
  refine RL.callP rfl hH4 (c_clearanceref03_Points _  _) (run_call1 Tryz.call54 rfl) ?_
  intro w5 hH6
  refine RL.val rfl (run_lss rfl rfl) ?_
  refine RL.nil ?_
  refine CW.condP rfl (fun h8 => ?_) (fun h8 => ?_)
  · refine CW.skip ?_
    refine CW.seq ?_
    refine CW.block ?_
    refine CW.seq ?_
    refine CW.region ?_
    refine RL.val rfl (run_ldRel Tryz.underlying42 rfl rfl e3_4 (hH6.blk (i := 0) rfl)) ?_
    refine RL.val rfl (run_move e1_4) ?_
    refine RL.val rfl (run_move e8_4) ?_
    refine RL.callP rfl hH6 (c_clearanceref03_Has _ _ _  _) (run_call3 Tryz.call61 rfl rfl rfl) ?_
    intro w9 hH10
    refine RL.val rfl (run_move (v := B _) rfl) ?_
    refine RL.split (dj := 21) rfl (fun h12 => ?_) (fun h12 => ?_)
    · refine RL.gT rfl (bR (c := true) h12) ?_
      refine RL.val rfl (run_ldRel Tryz.underlying42 rfl rfl e3_4 (hH10.blk (i := 0) rfl)) ?_
      refine RL.gT rfl (bR (c := true) h12) ?_
      refine RL.val rfl (run_move e2_4) ?_
      refine RL.gT rfl (bR (c := true) h12) ?_
      refine RL.val rfl (run_move e8_4) ?_
      refine RL.gT rfl (bR (c := true) h12) ?_
      refine RL.callP rfl hH10 (c_clearanceref03_Has _ _ _  _) (run_call3 Tryz.call61 rfl rfl rfl) ?_
      intro w13 hH14
      refine RL.val rfl (run_pickT (bR (c := true) h12) (v := B _) rfl) ?_
      refine RL.val rfl (run_assign (v := B _) rfl) ?_
      refine RL.nil ?_
      refine CW.seq ?_
      refine CW.seq ?_
      refine CW.region ?_
      refine RL.val rfl (run_assign (v := I 0) rfl) ?_
      refine RL.nil ?_
      refine CW.block ?_
      refine CW.loop (G := (Int)) (fun (v : Int) s' w' => (Fr [9, 10, 27, 28, 29, 30, 31, 32, 33, 34, 35, 36, 37, 38, 39, 40, 41, 42, 43, 44, 45, 46, 47, 48, 49] _ s') ∧ (Hp w w' _) ∧ (s' 9 = B (goodJ r i j u v)) ∧ (s' 10 = I v) ∧ (0 ≤ v) ∧ (v ≤ pts r)) (fun (v : Int) => (pts r - v).toNat) (0) ⟨Fr.refl _ _, hH14, (congrArg B (by simp [goodJ, upto, *])), rfl, (by omega), (by omega)⟩ ?_
      rintro v sg16 w16 ⟨fr16, hH16, e9_16, e10_16, v0, v1⟩
      have e1_16 := (fr16 1 rfl).trans e1_4
      have e2_16 := (fr16 2 rfl).trans e2_4
      have e3_16 := (fr16 3 rfl).trans e3_4
      have e8_16 := (fr16 8 rfl).trans e8_4
      have e11_16 : sg16 11 = I _ := (fr16 11 rfl).trans rfl
      have e12_16 : sg16 12 = .agg _ := (fr16 12 rfl).trans rfl
      have e13_16 : sg16 13 = I _ := (fr16 13 rfl).trans rfl
      have e14_16 : sg16 14 = B _ := (fr16 14 rfl).trans rfl
      have e17_16 : sg16 17 = .agg _ := (fr16 17 rfl).trans rfl
      have e18_16 : sg16 18 = I _ := (fr16 18 rfl).trans rfl
      have e19_16 : sg16 19 = I _ := (fr16 19 rfl).trans rfl
      have e20_16 : sg16 20 = B _ := (fr16 20 rfl).trans rfl
      have e21_16 : sg16 21 = B _ := (fr16 21 rfl).trans rfl
      have e22_16 : sg16 22 = .agg _ := (fr16 22 rfl).trans rfl
      have e23_16 : sg16 23 = I _ := (fr16 23 rfl).trans rfl
      have e24_16 : sg16 24 = I _ := (fr16 24 rfl).trans rfl
      have e25_16 : sg16 25 = B _ := (fr16 25 rfl).trans rfl
      have e26_16 : sg16 26 = B _ := (fr16 26 rfl).trans rfl
      refine CW.seq ?_
      refine CW.seq ?_
      refine CW.region ?_
      refine RL.val rfl (run_move e10_16) ?_
      refine RL.val rfl (run_ldRel Tryz.underlying42 rfl rfl e3_16 (hH16.blk (i := 0) rfl)) ?_
      refine RL.callP rfl hH16 (c_clearanceref03_Points _  _) (run_call1 Tryz.call54 rfl) ?_
      intro w18 hH19
      refine RL.val rfl (run_lss rfl rfl) ?_
      refine RL.nil ?_
      refine CW.condP rfl (fun h21 => ?_) (fun h21 => ?_)
      · refine CW.skip ?_
        refine CW.seq ?_
        refine CW.block ?_
        refine CW.seq ?_
        refine CW.region ?_
        refine RL.val rfl (run_ldRel Tryz.underlying42 rfl rfl e3_16 (hH19.blk (i := 0) rfl)) ?_
        refine RL.val rfl (run_move e1_16) ?_
        refine RL.val rfl (run_move e10_16) ?_
        refine RL.callP rfl hH19 (c_clearanceref03_Has _ _ _  _) (run_call3 Tryz.call61 rfl rfl rfl) ?_
        intro w22 hH23
        refine RL.val rfl (run_move (v := B _) rfl) ?_
        refine RL.split (dj := 37) rfl (fun h25 => ?_) (fun h25 => ?_)
        · refine RL.gT rfl (bR (c := true) h25) ?_
          refine RL.val rfl (run_ldRel Tryz.underlying42 rfl rfl e3_16 (hH23.blk (i := 0) rfl)) ?_
          refine RL.gT rfl (bR (c := true) h25) ?_
          refine RL.val rfl (run_move e2_16) ?_
          refine RL.gT rfl (bR (c := true) h25) ?_
          refine RL.val rfl (run_move e10_16) ?_
          refine RL.gT rfl (bR (c := true) h25) ?_
          refine RL.callP rfl hH23 (c_clearanceref03_Has _ _ _  _) (run_call3 Tryz.call61 rfl rfl rfl) ?_
          intro w26 hH27
          refine RL.val rfl (run_pickT (bR (c := true) h25) (v := B _) rfl) ?_
          refine RL.val rfl (run_move (v := B _) rfl) ?_
          refine RL.split (dj := 43) rfl (fun h29 => ?_) (fun h29 => ?_)
          · refine RL.gT rfl (bR (c := true) h29) ?_
            refine RL.val rfl (run_ldRel Tryz.underlying42 rfl rfl e3_16 (hH27.blk (i := 0) rfl)) ?_
            refine RL.gT rfl (bR (c := true) h29) ?_
            refine RL.val rfl (run_move e8_16) ?_
            refine RL.gT rfl (bR (c := true) h29) ?_
            refine RL.val rfl (run_move e10_16) ?_
            refine RL.gT rfl (bR (c := true) h29) ?_
            refine RL.callP rfl hH27 (c_clearanceref03_Has _ _ _  _) (run_call3 Tryz.call61 rfl rfl rfl) ?_
            intro w30 hH31
            refine RL.gT rfl (bR (c := true) h29) ?_
            refine RL.val rfl (run_not rfl) ?_
            refine RL.val rfl (run_pickT (bR (c := true) h29) (v := B _) rfl) ?_
            refine RL.nil ?_
            refine CW.cond rfl (fun h34 => ?_) (fun h34 => ?_)
            · refine CW.region ?_
              refine RL.val rfl (run_assign (v := B false) rfl) ?_
              refine RL.nil ?_
              refine CW.region ?_
              refine RL.val rfl (run_move e10_16) ?_
              refine RL.val rfl (run_add rfl rfl (by omega)) ?_
              refine RL.val rfl (run_assign (v := I _) rfl) ?_
              refine RL.nil ?_
              refine ⟨v + 1, ?_, ((((((((((((((((((((((((fr16.u rfl).u rfl).u rfl).u rfl).u rfl).u rfl).u rfl).u rfl).u rfl).u rfl).u rfl).u rfl).u rfl).u rfl).u rfl).u rfl).u rfl).u rfl).u rfl).u rfl).u rfl).u rfl).u rfl).u rfl).u rfl, hH31, (congrArg B (by rw [goodJ_next v0]; simp [*])), (congrArg I (by first | rfl | omega)), ?_, ?_⟩
              · ((try dsimp only); omega)
              · omega
              · omega
            · refine CW.skip ?_
              refine CW.region ?_
              refine RL.val rfl (run_move e10_16) ?_
              refine RL.val rfl (run_add rfl rfl (by omega)) ?_
              refine RL.val rfl (run_assign (v := I _) rfl) ?_
              refine RL.nil ?_
              refine ⟨v + 1, ?_, (((((((((((((((((((((((fr16.u rfl).u rfl).u rfl).u rfl).u rfl).u rfl).u rfl).u rfl).u rfl).u rfl).u rfl).u rfl).u rfl).u rfl).u rfl).u rfl).u rfl).u rfl).u rfl).u rfl).u rfl).u rfl).u rfl).u rfl, hH31, (Eq.trans e9_16 (congrArg B (by rw [goodJ_next v0]; simp [*]))), (congrArg I (by first | rfl | omega)), ?_, ?_⟩
              · ((try dsimp only); omega)
              · omega
              · omega
          · refine RL.gF rfl rfl (bR (c := false) h29) rfl ?_
            refine RL.gF rfl rfl (bR (c := false) h29) rfl ?_
            refine RL.gF rfl rfl (bR (c := false) h29) rfl ?_
            refine RL.gF rfl rfl (bR (c := false) h29) rfl ?_
            refine RL.gF rfl rfl (bR (c := false) h29) rfl ?_
            refine RL.val rfl (run_pickF (bR (c := false) h29) (v := B false) rfl) ?_
            refine RL.nil ?_
            refine CW.condF rfl ?_
            refine CW.skip ?_
            refine CW.region ?_
            refine RL.val rfl (run_move e10_16) ?_
            refine RL.val rfl (run_add rfl rfl (by omega)) ?_
            refine RL.val rfl (run_assign (v := I _) rfl) ?_
            refine RL.nil ?_
            refine ⟨v + 1, ?_, (((((((((((((((((((((((fr16.u rfl).u rfl).u rfl).u rfl).u rfl).u rfl).u rfl).u rfl).u rfl).u rfl).u rfl).u rfl).u rfl).u rfl).u rfl).u rfl).u rfl).u rfl).u rfl).u rfl).u rfl).u rfl).u rfl).u rfl, hH27, (Eq.trans e9_16 (congrArg B (by rw [goodJ_next v0]; simp [*]))), (congrArg I (by first | rfl | omega)), ?_, ?_⟩
            · ((try dsimp only); omega)
            · omega
            · omega
        · refine RL.gF rfl rfl (bR (c := false) h25) rfl ?_
          refine RL.gF rfl rfl (bR (c := false) h25) rfl ?_
          refine RL.gF rfl rfl (bR (c := false) h25) rfl ?_
          refine RL.gF rfl rfl (bR (c := false) h25) rfl ?_
          refine RL.val rfl (run_pickF (bR (c := false) h25) (v := B false) rfl) ?_
          refine RL.val rfl (run_move (v := B _) rfl) ?_
          refine RL.gF rfl rfl rfl rfl ?_
          refine RL.gF rfl rfl rfl rfl ?_
          refine RL.gF rfl rfl rfl rfl ?_
          refine RL.gF rfl rfl rfl rfl ?_
          refine RL.gF rfl rfl rfl rfl ?_
          refine RL.val rfl (run_pickF rfl (v := B false) rfl) ?_
          refine RL.nil ?_
          refine CW.condF rfl ?_
          refine CW.skip ?_
          refine CW.region ?_
          refine RL.val rfl (run_move e10_16) ?_
          refine RL.val rfl (run_add rfl rfl (by omega)) ?_
          refine RL.val rfl (run_assign (v := I _) rfl) ?_
          refine RL.nil ?_
          refine ⟨v + 1, ?_, (((((((((((((((((((((((fr16.u rfl).u rfl).u rfl).u rfl).u rfl).u rfl).u rfl).u rfl).u rfl).u rfl).u rfl).u rfl).u rfl).u rfl).u rfl).u rfl).u rfl).u rfl).u rfl).u rfl).u rfl).u rfl).u rfl).u rfl, hH23, (Eq.trans e9_16 (congrArg B (by rw [goodJ_next v0]; simp [*]))), (congrArg I (by first | rfl | omega)), ?_, ?_⟩
          · ((try dsimp only); omega)
          · omega
          · omega
      · refine CW.exit (id := 2) rfl ?_
        refine CW.seq ?_
        refine CW.region ?_
        refine RL.val rfl (run_move e9_16) ?_
        refine RL.nil ?_
        refine CW.cond rfl (fun h35 => ?_) (fun h35 => ?_)
        · refine CW.seq ?_
          refine CW.region ?_
          refine RL.val rfl (run_move e8_16) ?_
          refine RL.val rfl (run_assign (v := I _) rfl) ?_
          refine RL.val rfl (run_assign (v := B true) rfl) ?_
          refine RL.nil ?_
          refine CW.ret ?_
          first | (refine outP2 Tryz.results80 (congrArg I ?_) (congrArg B ?_) hH19.below <;> rw [join_yes u0 ‹_› (show v = pts r by omega) ‹_› hg]) | (refine outP2 Tryz.results80 (congrArg I ?_) (congrArg B ?_) hH19.below <;> rw [join_no ‹_› hg])
        · refine CW.skip ?_
          refine CW.region ?_
          refine RL.val rfl (run_move e8_16) ?_
          refine RL.val rfl (run_add rfl rfl (by omega)) ?_
          refine RL.val rfl (run_assign (v := I _) rfl) ?_
          refine RL.nil ?_
          refine ⟨u + 1, ?_, (((((((((((((((((((((((((fr4.u rfl).u rfl).u rfl).u rfl).u rfl).u rfl).u rfl).u rfl).u rfl).u rfl).u rfl).u rfl).u rfl).u rfl).u rfl).u rfl).t fr16 rfl)).u rfl).u rfl).u rfl).u rfl).u rfl).u rfl).u rfl).u rfl, hH19, (congrArg I (by first | rfl | omega)), ?_, ?_, ?_⟩
          · ((try dsimp only); omega)
          · omega
          · omega
          · exact fun x a b => if e : x = u then e ▸ (by rw [near_join r i j u (show v = pts r by omega)]; assumption) else hg x a (by omega)
    · refine RL.gF rfl rfl (bR (c := false) h12) rfl ?_
      refine RL.gF rfl rfl (bR (c := false) h12) rfl ?_
      refine RL.gF rfl rfl (bR (c := false) h12) rfl ?_
      refine RL.gF rfl rfl (bR (c := false) h12) rfl ?_
      refine RL.val rfl (run_pickF (bR (c := false) h12) (v := B false) rfl) ?_
      refine RL.val rfl (run_assign (v := B _) rfl) ?_
      refine RL.nil ?_
      refine CW.seq ?_
      refine CW.seq ?_
      refine CW.region ?_
      refine RL.val rfl (run_assign (v := I 0) rfl) ?_
      refine RL.nil ?_
      refine CW.block ?_
      refine CW.loop (G := (Int)) (fun (v : Int) s' w' => (Fr [9, 10, 27, 28, 29, 30, 31, 32, 33, 34, 35, 36, 37, 38, 39, 40, 41, 42, 43, 44, 45, 46, 47, 48, 49] _ s') ∧ (Hp w w' _) ∧ (s' 9 = B (goodJ r i j u v)) ∧ (s' 10 = I v) ∧ (0 ≤ v) ∧ (v ≤ pts r)) (fun (v : Int) => (pts r - v).toNat) (0) ⟨Fr.refl _ _, hH10, (congrArg B (by simp [goodJ, upto, *])), rfl, (by omega), (by omega)⟩ ?_
      rintro v sg36 w36 ⟨fr36, hH36, e9_36, e10_36, v0, v1⟩
      have e1_36 := (fr36 1 rfl).trans e1_4
      have e2_36 := (fr36 2 rfl).trans e2_4
      have e3_36 := (fr36 3 rfl).trans e3_4
      have e8_36 := (fr36 8 rfl).trans e8_4
      have e11_36 : sg36 11 = I _ := (fr36 11 rfl).trans rfl
      have e12_36 : sg36 12 = .agg _ := (fr36 12 rfl).trans rfl
      have e13_36 : sg36 13 = I _ := (fr36 13 rfl).trans rfl
      have e14_36 : sg36 14 = B _ := (fr36 14 rfl).trans rfl
      have e17_36 : sg36 17 = .agg _ := (fr36 17 rfl).trans rfl
      have e18_36 : sg36 18 = I _ := (fr36 18 rfl).trans rfl
      have e19_36 : sg36 19 = I _ := (fr36 19 rfl).trans rfl
      have e20_36 : sg36 20 = B _ := (fr36 20 rfl).trans rfl
      have e21_36 : sg36 21 = B _ := (fr36 21 rfl).trans rfl
      have e22_36 := (fr36 22 rfl).trans (by conv => lhs; whnf)
      have e23_36 := (fr36 23 rfl).trans (by conv => lhs; whnf)
      have e24_36 := (fr36 24 rfl).trans (by conv => lhs; whnf)
      have e25_36 := (fr36 25 rfl).trans (by conv => lhs; whnf)
      have e26_36 : sg36 26 = B _ := (fr36 26 rfl).trans rfl
      refine CW.seq ?_
      refine CW.seq ?_
      refine CW.region ?_
      refine RL.val rfl (run_move e10_36) ?_
      refine RL.val rfl (run_ldRel Tryz.underlying42 rfl rfl e3_36 (hH36.blk (i := 0) rfl)) ?_
      refine RL.callP rfl hH36 (c_clearanceref03_Points _  _) (run_call1 Tryz.call54 rfl) ?_
      intro w38 hH39
      refine RL.val rfl (run_lss rfl rfl) ?_
      refine RL.nil ?_
      refine CW.condP rfl (fun h41 => ?_) (fun h41 => ?_)
      · refine CW.skip ?_
        refine CW.seq ?_
        refine CW.block ?_
        refine CW.seq ?_
        refine CW.region ?_
        refine RL.val rfl (run_ldRel Tryz.underlying42 rfl rfl e3_36 (hH39.blk (i := 0) rfl)) ?_
        refine RL.val rfl (run_move e1_36) ?_
        refine RL.val rfl (run_move e10_36) ?_
        refine RL.callP rfl hH39 (c_clearanceref03_Has _ _ _  _) (run_call3 Tryz.call61 rfl rfl rfl) ?_
        intro w42 hH43
        refine RL.val rfl (run_move (v := B _) rfl) ?_
        refine RL.split (dj := 37) rfl (fun h45 => ?_) (fun h45 => ?_)
        · refine RL.gT rfl (bR (c := true) h45) ?_
          refine RL.val rfl (run_ldRel Tryz.underlying42 rfl rfl e3_36 (hH43.blk (i := 0) rfl)) ?_
          refine RL.gT rfl (bR (c := true) h45) ?_
          refine RL.val rfl (run_move e2_36) ?_
          refine RL.gT rfl (bR (c := true) h45) ?_
          refine RL.val rfl (run_move e10_36) ?_
          refine RL.gT rfl (bR (c := true) h45) ?_
          refine RL.callP rfl hH43 (c_clearanceref03_Has _ _ _  _) (run_call3 Tryz.call61 rfl rfl rfl) ?_
          intro w46 hH47
          refine RL.val rfl (run_pickT (bR (c := true) h45) (v := B _) rfl) ?_
          refine RL.val rfl (run_move (v := B _) rfl) ?_
          refine RL.split (dj := 43) rfl (fun h49 => ?_) (fun h49 => ?_)
          · refine RL.gT rfl (bR (c := true) h49) ?_
            refine RL.val rfl (run_ldRel Tryz.underlying42 rfl rfl e3_36 (hH47.blk (i := 0) rfl)) ?_
            refine RL.gT rfl (bR (c := true) h49) ?_
            refine RL.val rfl (run_move e8_36) ?_
            refine RL.gT rfl (bR (c := true) h49) ?_
            refine RL.val rfl (run_move e10_36) ?_
            refine RL.gT rfl (bR (c := true) h49) ?_
            refine RL.callP rfl hH47 (c_clearanceref03_Has _ _ _  _) (run_call3 Tryz.call61 rfl rfl rfl) ?_
            intro w50 hH51
            refine RL.gT rfl (bR (c := true) h49) ?_
            refine RL.val rfl (run_not rfl) ?_
            refine RL.val rfl (run_pickT (bR (c := true) h49) (v := B _) rfl) ?_
            refine RL.nil ?_
            refine CW.cond rfl (fun h54 => ?_) (fun h54 => ?_)
            · refine CW.region ?_
              refine RL.val rfl (run_assign (v := B false) rfl) ?_
              refine RL.nil ?_
              refine CW.region ?_
              refine RL.val rfl (run_move e10_36) ?_
              refine RL.val rfl (run_add rfl rfl (by omega)) ?_
              refine RL.val rfl (run_assign (v := I _) rfl) ?_
              refine RL.nil ?_
              refine ⟨v + 1, ?_, ((((((((((((((((((((((((fr36.u rfl).u rfl).u rfl).u rfl).u rfl).u rfl).u rfl).u rfl).u rfl).u rfl).u rfl).u rfl).u rfl).u rfl).u rfl).u rfl).u rfl).u rfl).u rfl).u rfl).u rfl).u rfl).u rfl).u rfl).u rfl, hH51, (congrArg B (by rw [goodJ_next v0]; simp [*])), (congrArg I (by first | rfl | omega)), ?_, ?_⟩
              · ((try dsimp only); omega)
              · omega
              · omega
            · refine CW.skip ?_
              refine CW.region ?_
              refine RL.val rfl (run_move e10_36) ?_
              refine RL.val rfl (run_add rfl rfl (by omega)) ?_
              refine RL.val rfl (run_assign (v := I _) rfl) ?_
              refine RL.nil ?_
              refine ⟨v + 1, ?_, (((((((((((((((((((((((fr36.u rfl).u rfl).u rfl).u rfl).u rfl).u rfl).u rfl).u rfl).u rfl).u rfl).u rfl).u rfl).u rfl).u rfl).u rfl).u rfl).u rfl).u rfl).u rfl).u rfl).u rfl).u rfl).u rfl).u rfl, hH51, (Eq.trans e9_36 (congrArg B (by rw [goodJ_next v0]; simp [*]))), (congrArg I (by first | rfl | omega)), ?_, ?_⟩
              · ((try dsimp only); omega)
              · omega
              · omega
          · refine RL.gF rfl rfl (bR (c := false) h49) rfl ?_
            refine RL.gF rfl rfl (bR (c := false) h49) rfl ?_
            refine RL.gF rfl rfl (bR (c := false) h49) rfl ?_
            refine RL.gF rfl rfl (bR (c := false) h49) rfl ?_
            refine RL.gF rfl rfl (bR (c := false) h49) rfl ?_
            refine RL.val rfl (run_pickF (bR (c := false) h49) (v := B false) rfl) ?_
            refine RL.nil ?_
            refine CW.condF rfl ?_
            refine CW.skip ?_
            refine CW.region ?_
            refine RL.val rfl (run_move e10_36) ?_
            refine RL.val rfl (run_add rfl rfl (by omega)) ?_
            refine RL.val rfl (run_assign (v := I _) rfl) ?_
            refine RL.nil ?_
            refine ⟨v + 1, ?_, (((((((((((((((((((((((fr36.u rfl).u rfl).u rfl).u rfl).u rfl).u rfl).u rfl).u rfl).u rfl).u rfl).u rfl).u rfl).u rfl).u rfl).u rfl).u rfl).u rfl).u rfl).u rfl).u rfl).u rfl).u rfl).u rfl).u rfl, hH47, (Eq.trans e9_36 (congrArg B (by rw [goodJ_next v0]; simp [*]))), (congrArg I (by first | rfl | omega)), ?_, ?_⟩
            · ((try dsimp only); omega)
            · omega
            · omega
        · refine RL.gF rfl rfl (bR (c := false) h45) rfl ?_
          refine RL.gF rfl rfl (bR (c := false) h45) rfl ?_
          refine RL.gF rfl rfl (bR (c := false) h45) rfl ?_
          refine RL.gF rfl rfl (bR (c := false) h45) rfl ?_
          refine RL.val rfl (run_pickF (bR (c := false) h45) (v := B false) rfl) ?_
          refine RL.val rfl (run_move (v := B _) rfl) ?_
          refine RL.gF rfl rfl rfl rfl ?_
          refine RL.gF rfl rfl rfl rfl ?_
          refine RL.gF rfl rfl rfl rfl ?_
          refine RL.gF rfl rfl rfl rfl ?_
          refine RL.gF rfl rfl rfl rfl ?_
          refine RL.val rfl (run_pickF rfl (v := B false) rfl) ?_
          refine RL.nil ?_
          refine CW.condF rfl ?_
          refine CW.skip ?_
          refine CW.region ?_
          refine RL.val rfl (run_move e10_36) ?_
          refine RL.val rfl (run_add rfl rfl (by omega)) ?_
          refine RL.val rfl (run_assign (v := I _) rfl) ?_
          refine RL.nil ?_
          refine ⟨v + 1, ?_, (((((((((((((((((((((((fr36.u rfl).u rfl).u rfl).u rfl).u rfl).u rfl).u rfl).u rfl).u rfl).u rfl).u rfl).u rfl).u rfl).u rfl).u rfl).u rfl).u rfl).u rfl).u rfl).u rfl).u rfl).u rfl).u rfl).u rfl, hH43, (Eq.trans e9_36 (congrArg B (by rw [goodJ_next v0]; simp [*]))), (congrArg I (by first | rfl | omega)), ?_, ?_⟩
          · ((try dsimp only); omega)
          · omega
          · omega
      · refine CW.exit (id := 2) rfl ?_
        refine CW.seq ?_
        refine CW.region ?_
        refine RL.val rfl (run_move e9_36) ?_
        refine RL.nil ?_
        refine CW.cond rfl (fun h55 => ?_) (fun h55 => ?_)
        · refine CW.seq ?_
          refine CW.region ?_
          refine RL.val rfl (run_move e8_36) ?_
          refine RL.val rfl (run_assign (v := I _) rfl) ?_
          refine RL.val rfl (run_assign (v := B true) rfl) ?_
          refine RL.nil ?_
          refine CW.ret ?_
          first | (refine outP2 Tryz.results80 (congrArg I ?_) (congrArg B ?_) hH39.below <;> rw [join_yes u0 ‹_› (show v = pts r by omega) ‹_› hg]) | (refine outP2 Tryz.results80 (congrArg I ?_) (congrArg B ?_) hH39.below <;> rw [join_no ‹_› hg])
        · refine CW.skip ?_
          refine CW.region ?_
          refine RL.val rfl (run_move e8_36) ?_
          refine RL.val rfl (run_add rfl rfl (by omega)) ?_
          refine RL.val rfl (run_assign (v := I _) rfl) ?_
          refine RL.nil ?_
          refine ⟨u + 1, ?_, (((((((((((((((((((((((((fr4.u rfl).u rfl).u rfl).u rfl).u rfl).u rfl).u rfl).u rfl).u rfl).u rfl).u rfl).u rfl).u rfl).u rfl).u rfl).u rfl).t fr36 rfl)).u rfl).u rfl).u rfl).u rfl).u rfl).u rfl).u rfl).u rfl, hH39, (congrArg I (by first | rfl | omega)), ?_, ?_, ?_⟩
          · ((try dsimp only); omega)
          · omega
          · omega
          · exact fun x a b => if e : x = u then e ▸ (by rw [near_join r i j u (show v = pts r by omega)]; assumption) else hg x a (by omega)
  · refine CW.exit (id := 0) rfl ?_
    refine CW.seq ?_
    refine CW.region ?_
    refine RL.val rfl (run_assign (v := I 0) rfl) ?_
    refine RL.val rfl (run_assign (v := B false) rfl) ?_
    refine RL.nil ?_
    refine CW.ret ?_
    first | (refine outP2 Tryz.results80 (congrArg I ?_) (congrArg B ?_) hH6.below <;> rw [join_yes u0 ‹_› (show v = pts r by omega) ‹_› hg]) | (refine outP2 Tryz.results80 (congrArg I ?_) (congrArg B ?_) hH6.below <;> rw [join_no ‹_› hg])

theorem c_clearanceref06_Meet (r : Rl) (i j : Int) (w : World) : Calls Tryz.prog 90 #[.agg (relC r), I i, I j] w (Pure (.tuple #[I (meetV r i j).1, B (meetV r i j).2]) w) := by
  have hp := pts_bd r
  refine enter Tryz.func90 rfl Tryz.ntmps90 rfl ?_
  have hH := Hp.start w
  refine CW.seq ?_
  refine CW.region ?_
  refine RL.new rfl hH (f := fun b => (.pointer (some ⟨b, 0, none⟩))) (run_box (v := .agg _) rfl) ?_
  intro b3 w1 hH2
  refine RL.val rfl (run_assign (v := I 0) rfl) ?_
  refine RL.val rfl (run_assign (v := B false) rfl) ?_
  refine RL.nil ?_
  refine CW.seq ?_
  refine CW.seq ?_
  refine CW.region ?_
  refine RL.val rfl (run_assign (v := I 0) rfl) ?_
  refine RL.nil ?_
  refine CW.block ?_
  refine CW.loop (G := (Int)) (fun (u : Int) s' w' => (Fr [6, 7, 8, 9, 10, 11, 12, 13, 14, 15, 16, 17, 18, 19, 20, 21, 22, 23, 24, 25, 26, 27, 28, 29, 30, 31, 32, 33, 34, 35, 36, 37, 38, 39, 40, 41, 42, 43, 44, 45, 46, 47, 48, 49, 50, 51] _ s') ∧ (Hp w w' _) ∧ (s' 8 = I u) ∧ (0 ≤ u) ∧ (u ≤ pts r) ∧ (∀ x : Int, 0 ≤ x → x < u → nearP (belowR r) i j x = false)) (fun (u : Int) => (pts r - u).toNat) (0) ⟨Fr.refl _ _, hH2, rfl, (by omega), (by omega), fun x a b => absurd b (by omega)⟩ ?_
  rintro u sg4 w4 ⟨fr4, hH4, e8_4, u0, u1, hg⟩
  have e1_4 : sg4 1 = I _ := (fr4 1 rfl).trans rfl
  have e2_4 : sg4 2 = I _ := (fr4 2 rfl).trans rfl
  have e3_4 : sg4 3 = .pointer (some ⟨_, _, none⟩) := (fr4 3 rfl).trans rfl
  refine CW.seq ?_
  refine CW.seq ?_
  refine CW.region ?_
  refine RL.val rfl (run_move e8_4) ?_
  refine RL.val rfl (run_ldRel Tryz.underlying42 rfl rfl e3_4 (hH4.blk (i := 0) rfl)) ?_
  refine RL.callP rfl hH4 (c_clearanceref03_Points _  _) (run_call1 Tryz.call54 rfl) ?_
  intro w5 hH6
  refine RL.val rfl (run_lss rfl rfl) ?_
  refine RL.nil ?_
  refine CW.condP rfl (fun h8 => ?_) (fun h8 => ?_)
  · refine CW.skip ?_
    refine CW.seq ?_
    refine CW.block ?_
    refine CW.seq ?_
    refine CW.region ?_
    refine RL.val rfl (run_ldRel Tryz.underlying42 rfl rfl e3_4 (hH6.blk (i := 0) rfl)) ?_
    refine RL.val rfl (run_move e8_4) ?_
    refine RL.val rfl (run_move e1_4) ?_
    refine RL.callP rfl hH6 (c_clearanceref03_Has _ _ _  _) (run_call3 Tryz.call61 rfl rfl rfl) ?_
    intro w9 hH10
    refine RL.val rfl (run_move (v := B _) rfl) ?_
    refine RL.split (dj := 21) rfl (fun h12 => ?_) (fun h12 => ?_)
    · refine RL.gT rfl (bR (c := true) h12) ?_
      refine RL.val rfl (run_ldRel Tryz.underlying42 rfl rfl e3_4 (hH10.blk (i := 0) rfl)) ?_
      refine RL.gT rfl (bR (c := true) h12) ?_
      refine RL.val rfl (run_move e8_4) ?_
      refine RL.gT rfl (bR (c := true) h12) ?_
      refine RL.val rfl (run_move e2_4) ?_
      refine RL.gT rfl (bR (c := true) h12) ?_
      refine RL.callP rfl hH10 (c_clearanceref03_Has _ _ _  _) (run_call3 Tryz.call61 rfl rfl rfl) ?_
      intro w13 hH14
      refine RL.val rfl (run_pickT (bR (c := true) h12) (v := B _) rfl) ?_
      refine RL.val rfl (run_assign (v := B _) rfl) ?_
      refine RL.nil ?_
      refine CW.seq ?_
      refine CW.seq ?_
      refine CW.region ?_
      refine RL.val rfl (run_assign (v := I 0) rfl) ?_
      refine RL.nil ?_
      refine CW.block ?_
      refine CW.loop (G := (Int)) (fun (v : Int) s' w' => (Fr [9, 10, 27, 28, 29, 30, 31, 32, 33, 34, 35, 36, 37, 38, 39, 40, 41, 42, 43, 44, 45, 46, 47, 48, 49] _ s') ∧ (Hp w w' _) ∧ (s' 9 = B (goodM r i j u v)) ∧ (s' 10 = I v) ∧ (0 ≤ v) ∧ (v ≤ pts r)) (fun (v : Int) => (pts r - v).toNat) (0) ⟨Fr.refl _ _, hH14, (congrArg B (by simp [goodM, upto, *])), rfl, (by omega), (by omega)⟩ ?_
      rintro v sg16 w16 ⟨fr16, hH16, e9_16, e10_16, v0, v1⟩
      have e1_16 := (fr16 1 rfl).trans e1_4
      have e2_16 := (fr16 2 rfl).trans e2_4
      have e3_16 := (fr16 3 rfl).trans e3_4
      have e8_16 := (fr16 8 rfl).trans e8_4
      have e11_16 : sg16 11 = I _ := (fr16 11 rfl).trans rfl
      have e12_16 : sg16 12 = .agg _ := (fr16 12 rfl).trans rfl
      have e13_16 : sg16 13 = I _ := (fr16 13 rfl).trans rfl
      have e14_16 : sg16 14 = B _ := (fr16 14 rfl).trans rfl
      have e17_16 : sg16 17 = .agg _ := (fr16 17 rfl).trans rfl
      have e18_16 : sg16 18 = I _ := (fr16 18 rfl).trans rfl
      have e19_16 : sg16 19 = I _ := (fr16 19 rfl).trans rfl
      have e20_16 : sg16 20 = B _ := (fr16 20 rfl).trans rfl
      have e21_16 : sg16 21 = B _ := (fr16 21 rfl).trans rfl
      have e22_16 : sg16 22 = .agg _ := (fr16 22 rfl).trans rfl
      have e23_16 : sg16 23 = I _ := (fr16 23 rfl).trans rfl
      have e24_16 : sg16 24 = I _ := (fr16 24 rfl).trans rfl
      have e25_16 : sg16 25 = B _ := (fr16 25 rfl).trans rfl
      have e26_16 : sg16 26 = B _ := (fr16 26 rfl).trans rfl
      refine CW.seq ?_
      refine CW.seq ?_
      refine CW.region ?_
      refine RL.val rfl (run_move e10_16) ?_
      refine RL.val rfl (run_ldRel Tryz.underlying42 rfl rfl e3_16 (hH16.blk (i := 0) rfl)) ?_
      refine RL.callP rfl hH16 (c_clearanceref03_Points _  _) (run_call1 Tryz.call54 rfl) ?_
      intro w18 hH19
      refine RL.val rfl (run_lss rfl rfl) ?_
      refine RL.nil ?_
      refine CW.condP rfl (fun h21 => ?_) (fun h21 => ?_)
      · refine CW.skip ?_
        refine CW.seq ?_
        refine CW.block ?_
        refine CW.seq ?_
        refine CW.region ?_
        refine RL.val rfl (run_ldRel Tryz.underlying42 rfl rfl e3_16 (hH19.blk (i := 0) rfl)) ?_
        refine RL.val rfl (run_move e10_16) ?_
        refine RL.val rfl (run_move e1_16) ?_
        refine RL.callP rfl hH19 (c_clearanceref03_Has _ _ _  _) (run_call3 Tryz.call61 rfl rfl rfl) ?_
        intro w22 hH23
        refine RL.val rfl (run_move (v := B _) rfl) ?_
        refine RL.split (dj := 37) rfl (fun h25 => ?_) (fun h25 => ?_)
        · refine RL.gT rfl (bR (c := true) h25) ?_
          refine RL.val rfl (run_ldRel Tryz.underlying42 rfl rfl e3_16 (hH23.blk (i := 0) rfl)) ?_
          refine RL.gT rfl (bR (c := true) h25) ?_
          refine RL.val rfl (run_move e10_16) ?_
          refine RL.gT rfl (bR (c := true) h25) ?_
          refine RL.val rfl (run_move e2_16) ?_
          refine RL.gT rfl (bR (c := true) h25) ?_
          refine RL.callP rfl hH23 (c_clearanceref03_Has _ _ _  _) (run_call3 Tryz.call61 rfl rfl rfl) ?_
          intro w26 hH27
          refine RL.val rfl (run_pickT (bR (c := true) h25) (v := B _) rfl) ?_
          refine RL.val rfl (run_move (v := B _) rfl) ?_
          refine RL.split (dj := 43) rfl (fun h29 => ?_) (fun h29 => ?_)
          · refine RL.gT rfl (bR (c := true) h29) ?_
            refine RL.val rfl (run_ldRel Tryz.underlying42 rfl rfl e3_16 (hH27.blk (i := 0) rfl)) ?_
            refine RL.gT rfl (bR (c := true) h29) ?_
            refine RL.val rfl (run_move e10_16) ?_
            refine RL.gT rfl (bR (c := true) h29) ?_
            refine RL.val rfl (run_move e8_16) ?_
            refine RL.gT rfl (bR (c := true) h29) ?_
            refine RL.callP rfl hH27 (c_clearanceref03_Has _ _ _  _) (run_call3 Tryz.call61 rfl rfl rfl) ?_
            intro w30 hH31
            refine RL.gT rfl (bR (c := true) h29) ?_
            refine RL.val rfl (run_not rfl) ?_
            refine RL.val rfl (run_pickT (bR (c := true) h29) (v := B _) rfl) ?_
            refine RL.nil ?_
            refine CW.cond rfl (fun h34 => ?_) (fun h34 => ?_)
            · refine CW.region ?_
              refine RL.val rfl (run_assign (v := B false) rfl) ?_
              refine RL.nil ?_
              refine CW.region ?_
              refine RL.val rfl (run_move e10_16) ?_
              refine RL.val rfl (run_add rfl rfl (by omega)) ?_
              refine RL.val rfl (run_assign (v := I _) rfl) ?_
              refine RL.nil ?_
              refine ⟨v + 1, ?_, ((((((((((((((((((((((((fr16.u rfl).u rfl).u rfl).u rfl).u rfl).u rfl).u rfl).u rfl).u rfl).u rfl).u rfl).u rfl).u rfl).u rfl).u rfl).u rfl).u rfl).u rfl).u rfl).u rfl).u rfl).u rfl).u rfl).u rfl).u rfl, hH31, (congrArg B (by rw [goodM_next v0]; simp [*])), (congrArg I (by first | rfl | omega)), ?_, ?_⟩
              · ((try dsimp only); omega)
              · omega
              · omega
            · refine CW.skip ?_
              refine CW.region ?_
              refine RL.val rfl (run_move e10_16) ?_
              refine RL.val rfl (run_add rfl rfl (by omega)) ?_
              refine RL.val rfl (run_assign (v := I _) rfl) ?_
              refine RL.nil ?_
              refine ⟨v + 1, ?_, (((((((((((((((((((((((fr16.u rfl).u rfl).u rfl).u rfl).u rfl).u rfl).u rfl).u rfl).u rfl).u rfl).u rfl).u rfl).u rfl).u rfl).u rfl).u rfl).u rfl).u rfl).u rfl).u rfl).u rfl).u rfl).u rfl).u rfl, hH31, (Eq.trans e9_16 (congrArg B (by rw [goodM_next v0]; simp [*]))), (congrArg I (by first | rfl | omega)), ?_, ?_⟩
              · ((try dsimp only); omega)
              · omega
              · omega
          · refine RL.gF rfl rfl (bR (c := false) h29) rfl ?_
            refine RL.gF rfl rfl (bR (c := false) h29) rfl ?_
            refine RL.gF rfl rfl (bR (c := false) h29) rfl ?_
            refine RL.gF rfl rfl (bR (c := false) h29) rfl ?_
            refine RL.gF rfl rfl (bR (c := false) h29) rfl ?_
            refine RL.val rfl (run_pickF (bR (c := false) h29) (v := B false) rfl) ?_
            refine RL.nil ?_
            refine CW.condF rfl ?_
            refine CW.skip ?_
            refine CW.region ?_
            refine RL.val rfl (run_move e10_16) ?_
            refine RL.val rfl (run_add rfl rfl (by omega)) ?_
            refine RL.val rfl (run_assign (v := I _) rfl) ?_
            refine RL.nil ?_
            refine ⟨v + 1, ?_, (((((((((((((((((((((((fr16.u rfl).u rfl).u rfl).u rfl).u rfl).u rfl).u rfl).u rfl).u rfl).u rfl).u rfl).u rfl).u rfl).u rfl).u rfl).u rfl).u rfl).u rfl).u rfl).u rfl).u rfl).u rfl).u rfl).u rfl, hH27, (Eq.trans e9_16 (congrArg B (by rw [goodM_next v0]; simp [*]))), (congrArg I (by first | rfl | omega)), ?_, ?_⟩
            · ((try dsimp only); omega)
            · omega
            · omega
        · refine RL.gF rfl rfl (bR (c := false) h25) rfl ?_
          refine RL.gF rfl rfl (bR (c := false) h25) rfl ?_
          refine RL.gF rfl rfl (bR (c := false) h25) rfl ?_
          refine RL.gF rfl rfl (bR (c := false) h25) rfl ?_
          refine RL.val rfl (run_pickF (bR (c := false) h25) (v := B false) rfl) ?_
          refine RL.val rfl (run_move (v := B _) rfl) ?_
          refine RL.gF rfl rfl rfl rfl ?_
          refine RL.gF rfl rfl rfl rfl ?_
          refine RL.gF rfl rfl rfl rfl ?_
          refine RL.gF rfl rfl rfl rfl ?_
          refine RL.gF rfl rfl rfl rfl ?_
          refine RL.val rfl (run_pickF rfl (v := B false) rfl) ?_
          refine RL.nil ?_
          refine CW.condF rfl ?_
          refine CW.skip ?_
          refine CW.region ?_
          refine RL.val rfl (run_move e10_16) ?_
          refine RL.val rfl (run_add rfl rfl (by omega)) ?_
          refine RL.val rfl (run_assign (v := I _) rfl) ?_
          refine RL.nil ?_
          refine ⟨v + 1, ?_, (((((((((((((((((((((((fr16.u rfl).u rfl).u rfl).u rfl).u rfl).u rfl).u rfl).u rfl).u rfl).u rfl).u rfl).u rfl).u rfl).u rfl).u rfl).u rfl).u rfl).u rfl).u rfl).u rfl).u rfl).u rfl).u rfl).u rfl, hH23, (Eq.trans e9_16 (congrArg B (by rw [goodM_next v0]; simp [*]))), (congrArg I (by first | rfl | omega)), ?_, ?_⟩
          · ((try dsimp only); omega)
          · omega
          · omega
      · refine CW.exit (id := 2) rfl ?_
        refine CW.seq ?_
        refine CW.region ?_
        refine RL.val rfl (run_move e9_16) ?_
        refine RL.nil ?_
        refine CW.cond rfl (fun h35 => ?_) (fun h35 => ?_)
        · refine CW.seq ?_
          refine CW.region ?_
          refine RL.val rfl (run_move e8_16) ?_
          refine RL.val rfl (run_assign (v := I _) rfl) ?_
          refine RL.val rfl (run_assign (v := B true) rfl) ?_
          refine RL.nil ?_
          refine CW.ret ?_
          first | (refine outP2 Tryz.results90 (congrArg I ?_) (congrArg B ?_) hH19.below <;> rw [meet_yes u0 ‹_› (show v = pts r by omega) ‹_› hg]) | (refine outP2 Tryz.results90 (congrArg I ?_) (congrArg B ?_) hH19.below <;> rw [meet_no ‹_› hg])
        · refine CW.skip ?_
          refine CW.region ?_
          refine RL.val rfl (run_move e8_16) ?_
          refine RL.val rfl (run_add rfl rfl (by omega)) ?_
          refine RL.val rfl (run_assign (v := I _) rfl) ?_
          refine RL.nil ?_
          refine ⟨u + 1, ?_, (((((((((((((((((((((((((fr4.u rfl).u rfl).u rfl).u rfl).u rfl).u rfl).u rfl).u rfl).u rfl).u rfl).u rfl).u rfl).u rfl).u rfl).u rfl).u rfl).t fr16 rfl)).u rfl).u rfl).u rfl).u rfl).u rfl).u rfl).u rfl).u rfl, hH19, (congrArg I (by first | rfl | omega)), ?_, ?_, ?_⟩
          · ((try dsimp only); omega)
          · omega
          · omega
          · exact fun x a b => if e : x = u then e ▸ (by rw [near_meet r i j u (show v = pts r by omega)]; assumption) else hg x a (by omega)
    · refine RL.gF rfl rfl (bR (c := false) h12) rfl ?_
      refine RL.gF rfl rfl (bR (c := false) h12) rfl ?_
      refine RL.gF rfl rfl (bR (c := false) h12) rfl ?_
      refine RL.gF rfl rfl (bR (c := false) h12) rfl ?_
      refine RL.val rfl (run_pickF (bR (c := false) h12) (v := B false) rfl) ?_
      refine RL.val rfl (run_assign (v := B _) rfl) ?_
      refine RL.nil ?_
      refine CW.seq ?_
      refine CW.seq ?_
      refine CW.region ?_
      refine RL.val rfl (run_assign (v := I 0) rfl) ?_
      refine RL.nil ?_
      refine CW.block ?_
      refine CW.loop (G := (Int)) (fun (v : Int) s' w' => (Fr [9, 10, 27, 28, 29, 30, 31, 32, 33, 34, 35, 36, 37, 38, 39, 40, 41, 42, 43, 44, 45, 46, 47, 48, 49] _ s') ∧ (Hp w w' _) ∧ (s' 9 = B (goodM r i j u v)) ∧ (s' 10 = I v) ∧ (0 ≤ v) ∧ (v ≤ pts r)) (fun (v : Int) => (pts r - v).toNat) (0) ⟨Fr.refl _ _, hH10, (congrArg B (by simp [goodM, upto, *])), rfl, (by omega), (by omega)⟩ ?_
      rintro v sg36 w36 ⟨fr36, hH36, e9_36, e10_36, v0, v1⟩
      have e1_36 := (fr36 1 rfl).trans e1_4
      have e2_36 := (fr36 2 rfl).trans e2_4
      have e3_36 := (fr36 3 rfl).trans e3_4
      have e8_36 := (fr36 8 rfl).trans e8_4
      have e11_36 : sg36 11 = I _ := (fr36 11 rfl).trans rfl
      have e12_36 : sg36 12 = .agg _ := (fr36 12 rfl).trans rfl
      have e13_36 : sg36 13 = I _ := (fr36 13 rfl).trans rfl
      have e14_36 : sg36 14 = B _ := (fr36 14 rfl).trans rfl
      have e17_36 : sg36 17 = .agg _ := (fr36 17 rfl).trans rfl
      have e18_36 : sg36 18 = I _ := (fr36 18 rfl).trans rfl
      have e19_36 : sg36 19 = I _ := (fr36 19 rfl).trans rfl
      have e20_36 : sg36 20 = B _ := (fr36 20 rfl).trans rfl
      have e21_36 : sg36 21 = B _ := (fr36 21 rfl).trans rfl
      have e22_36 := (fr36 22 rfl).trans (by conv => lhs; whnf)
      have e23_36 := (fr36 23 rfl).trans (by conv => lhs; whnf)
      have e24_36 := (fr36 24 rfl).trans (by conv => lhs; whnf)
      have e25_36 := (fr36 25 rfl).trans (by conv => lhs; whnf)
      have e26_36 : sg36 26 = B _ := (fr36 26 rfl).trans rfl
      refine CW.seq ?_
      refine CW.seq ?_
      refine CW.region ?_
      refine RL.val rfl (run_move e10_36) ?_
      refine RL.val rfl (run_ldRel Tryz.underlying42 rfl rfl e3_36 (hH36.blk (i := 0) rfl)) ?_
      refine RL.callP rfl hH36 (c_clearanceref03_Points _  _) (run_call1 Tryz.call54 rfl) ?_
      intro w38 hH39
      refine RL.val rfl (run_lss rfl rfl) ?_
      refine RL.nil ?_
      refine CW.condP rfl (fun h41 => ?_) (fun h41 => ?_)
      · refine CW.skip ?_
        refine CW.seq ?_
        refine CW.block ?_
        refine CW.seq ?_
        refine CW.region ?_
        refine RL.val rfl (run_ldRel Tryz.underlying42 rfl rfl e3_36 (hH39.blk (i := 0) rfl)) ?_
        refine RL.val rfl (run_move e10_36) ?_
        refine RL.val rfl (run_move e1_36) ?_
        refine RL.callP rfl hH39 (c_clearanceref03_Has _ _ _  _) (run_call3 Tryz.call61 rfl rfl rfl) ?_
        intro w42 hH43
        refine RL.val rfl (run_move (v := B _) rfl) ?_
        refine RL.split (dj := 37) rfl (fun h45 => ?_) (fun h45 => ?_)
        · refine RL.gT rfl (bR (c := true) h45) ?_
          refine RL.val rfl (run_ldRel Tryz.underlying42 rfl rfl e3_36 (hH43.blk (i := 0) rfl)) ?_
          refine RL.gT rfl (bR (c := true) h45) ?_
          refine RL.val rfl (run_move e10_36) ?_
          refine RL.gT rfl (bR (c := true) h45) ?_
          refine RL.val rfl (run_move e2_36) ?_
          refine RL.gT rfl (bR (c := true) h45) ?_
          refine RL.callP rfl hH43 (c_clearanceref03_Has _ _ _  _) (run_call3 Tryz.call61 rfl rfl rfl) ?_
          intro w46 hH47
          refine RL.val rfl (run_pickT (bR (c := true) h45) (v := B _) rfl) ?_
          refine RL.val rfl (run_move (v := B _) rfl) ?_
          refine RL.split (dj := 43) rfl (fun h49 => ?_) (fun h49 => ?_)
          · refine RL.gT rfl (bR (c := true) h49) ?_
            refine RL.val rfl (run_ldRel Tryz.underlying42 rfl rfl e3_36 (hH47.blk (i := 0) rfl)) ?_
            refine RL.gT rfl (bR (c := true) h49) ?_
            refine RL.val rfl (run_move e10_36) ?_
            refine RL.gT rfl (bR (c := true) h49) ?_
            refine RL.val rfl (run_move e8_36) ?_
            refine RL.gT rfl (bR (c := true) h49) ?_
            refine RL.callP rfl hH47 (c_clearanceref03_Has _ _ _  _) (run_call3 Tryz.call61 rfl rfl rfl) ?_
            intro w50 hH51
            refine RL.gT rfl (bR (c := true) h49) ?_
            refine RL.val rfl (run_not rfl) ?_
            refine RL.val rfl (run_pickT (bR (c := true) h49) (v := B _) rfl) ?_
            refine RL.nil ?_
            refine CW.cond rfl (fun h54 => ?_) (fun h54 => ?_)
            · refine CW.region ?_
              refine RL.val rfl (run_assign (v := B false) rfl) ?_
              refine RL.nil ?_
              refine CW.region ?_
              refine RL.val rfl (run_move e10_36) ?_
              refine RL.val rfl (run_add rfl rfl (by omega)) ?_
              refine RL.val rfl (run_assign (v := I _) rfl) ?_
              refine RL.nil ?_
              refine ⟨v + 1, ?_, ((((((((((((((((((((((((fr36.u rfl).u rfl).u rfl).u rfl).u rfl).u rfl).u rfl).u rfl).u rfl).u rfl).u rfl).u rfl).u rfl).u rfl).u rfl).u rfl).u rfl).u rfl).u rfl).u rfl).u rfl).u rfl).u rfl).u rfl).u rfl, hH51, (congrArg B (by rw [goodM_next v0]; simp [*])), (congrArg I (by first | rfl | omega)), ?_, ?_⟩
              · ((try dsimp only); omega)
              · omega
              · omega
            · refine CW.skip ?_
              refine CW.region ?_
              refine RL.val rfl (run_move e10_36) ?_
              refine RL.val rfl (run_add rfl rfl (by omega)) ?_
              refine RL.val rfl (run_assign (v := I _) rfl) ?_
              refine RL.nil ?_
              refine ⟨v + 1, ?_, (((((((((((((((((((((((fr36.u rfl).u rfl).u rfl).u rfl).u rfl).u rfl).u rfl).u rfl).u rfl).u rfl).u rfl).u rfl).u rfl).u rfl).u rfl).u rfl).u rfl).u rfl).u rfl).u rfl).u rfl).u rfl).u rfl).u rfl, hH51, (Eq.trans e9_36 (congrArg B (by rw [goodM_next v0]; simp [*]))), (congrArg I (by first | rfl | omega)), ?_, ?_⟩
              · ((try dsimp only); omega)
              · omega
              · omega
          · refine RL.gF rfl rfl (bR (c := false) h49) rfl ?_
            refine RL.gF rfl rfl (bR (c := false) h49) rfl ?_
            refine RL.gF rfl rfl (bR (c := false) h49) rfl ?_
            refine RL.gF rfl rfl (bR (c := false) h49) rfl ?_
            refine RL.gF rfl rfl (bR (c := false) h49) rfl ?_
            refine RL.val rfl (run_pickF (bR (c := false) h49) (v := B false) rfl) ?_
            refine RL.nil ?_
            refine CW.condF rfl ?_
            refine CW.skip ?_
            refine CW.region ?_
            refine RL.val rfl (run_move e10_36) ?_
            refine RL.val rfl (run_add rfl rfl (by omega)) ?_
            refine RL.val rfl (run_assign (v := I _) rfl) ?_
            refine RL.nil ?_
            refine ⟨v + 1, ?_, (((((((((((((((((((((((fr36.u rfl).u rfl).u rfl).u rfl).u rfl).u rfl).u rfl).u rfl).u rfl).u rfl).u rfl).u rfl).u rfl).u rfl).u rfl).u rfl).u rfl).u rfl).u rfl).u rfl).u rfl).u rfl).u rfl).u rfl, hH47, (Eq.trans e9_36 (congrArg B (by rw [goodM_next v0]; simp [*]))), (congrArg I (by first | rfl | omega)), ?_, ?_⟩
            · ((try dsimp only); omega)
            · omega
            · omega
        · refine RL.gF rfl rfl (bR (c := false) h45) rfl ?_
          refine RL.gF rfl rfl (bR (c := false) h45) rfl ?_
          refine RL.gF rfl rfl (bR (c := false) h45) rfl ?_
          refine RL.gF rfl rfl (bR (c := false) h45) rfl ?_
          refine RL.val rfl (run_pickF (bR (c := false) h45) (v := B false) rfl) ?_
          refine RL.val rfl (run_move (v := B _) rfl) ?_
          refine RL.gF rfl rfl rfl rfl ?_
          refine RL.gF rfl rfl rfl rfl ?_
          refine RL.gF rfl rfl rfl rfl ?_
          refine RL.gF rfl rfl rfl rfl ?_
          refine RL.gF rfl rfl rfl rfl ?_
          refine RL.val rfl (run_pickF rfl (v := B false) rfl) ?_
          refine RL.nil ?_
          refine CW.condF rfl ?_
          refine CW.skip ?_
          refine CW.region ?_
          refine RL.val rfl (run_move e10_36) ?_
          refine RL.val rfl (run_add rfl rfl (by omega)) ?_
          refine RL.val rfl (run_assign (v := I _) rfl) ?_
          refine RL.nil ?_
          refine ⟨v + 1, ?_, (((((((((((((((((((((((fr36.u rfl).u rfl).u rfl).u rfl).u rfl).u rfl).u rfl).u rfl).u rfl).u rfl).u rfl).u rfl).u rfl).u rfl).u rfl).u rfl).u rfl).u rfl).u rfl).u rfl).u rfl).u rfl).u rfl).u rfl, hH43, (Eq.trans e9_36 (congrArg B (by rw [goodM_next v0]; simp [*]))), (congrArg I (by first | rfl | omega)), ?_, ?_⟩
          · ((try dsimp only); omega)
          · omega
          · omega
      · refine CW.exit (id := 2) rfl ?_
        refine CW.seq ?_
        refine CW.region ?_
        refine RL.val rfl (run_move e9_36) ?_
        refine RL.nil ?_
        refine CW.cond rfl (fun h55 => ?_) (fun h55 => ?_)
        · refine CW.seq ?_
          refine CW.region ?_
          refine RL.val rfl (run_move e8_36) ?_
          refine RL.val rfl (run_assign (v := I _) rfl) ?_
          refine RL.val rfl (run_assign (v := B true) rfl) ?_
          refine RL.nil ?_
          refine CW.ret ?_
          first | (refine outP2 Tryz.results90 (congrArg I ?_) (congrArg B ?_) hH39.below <;> rw [meet_yes u0 ‹_› (show v = pts r by omega) ‹_› hg]) | (refine outP2 Tryz.results90 (congrArg I ?_) (congrArg B ?_) hH39.below <;> rw [meet_no ‹_› hg])
        · refine CW.skip ?_
          refine CW.region ?_
          refine RL.val rfl (run_move e8_36) ?_
          refine RL.val rfl (run_add rfl rfl (by omega)) ?_
          refine RL.val rfl (run_assign (v := I _) rfl) ?_
          refine RL.nil ?_
          refine ⟨u + 1, ?_, (((((((((((((((((((((((((fr4.u rfl).u rfl).u rfl).u rfl).u rfl).u rfl).u rfl).u rfl).u rfl).u rfl).u rfl).u rfl).u rfl).u rfl).u rfl).u rfl).t fr36 rfl)).u rfl).u rfl).u rfl).u rfl).u rfl).u rfl).u rfl).u rfl, hH39, (congrArg I (by first | rfl | omega)), ?_, ?_, ?_⟩
          · ((try dsimp only); omega)
          · omega
          · omega
          · exact fun x a b => if e : x = u then e ▸ (by rw [near_meet r i j u (show v = pts r by omega)]; assumption) else hg x a (by omega)
  · refine CW.exit (id := 0) rfl ?_
    refine CW.seq ?_
    refine CW.region ?_
    refine RL.val rfl (run_assign (v := I 0) rfl) ?_
    refine RL.val rfl (run_assign (v := B false) rfl) ?_
    refine RL.nil ?_
    refine CW.ret ?_
    first | (refine outP2 Tryz.results90 (congrArg I ?_) (congrArg B ?_) hH6.below <;> rw [meet_yes u0 ‹_› (show v = pts r by omega) ‹_› hg]) | (refine outP2 Tryz.results90 (congrArg I ?_) (congrArg B ?_) hH6.below <;> rw [meet_no ‹_› hg])

theorem c_clearanceref06_Lattice (r : Rl) (w : World) : Calls Tryz.prog 56 #[.agg (relC r)] w (Pure (B (latB r)) w) := by
  have hp := pts_bd r
  refine enter Tryz.func56 rfl Tryz.ntmps56 rfl ?_
  have hH := Hp.start w
  refine CW.seq ?_
  refine CW.region ?_
  refine RL.new rfl hH (f := fun b => (.pointer (some ⟨b, 0, none⟩))) (run_box (v := .agg _) rfl) ?_
  intro b3 w1 hH2
  refine RL.val rfl (run_assign (v := B false) rfl) ?_
  refine RL.nil ?_
  refine CW.seq ?_
  refine CW.seq ?_
  refine CW.region ?_
  refine RL.val rfl (run_fieldAddr Tryz.underlying42 rfl (off := 0) rfl Tryz.sizeOf3 (by decide) rfl) ?_
  refine RL.val rfl (run_ld Tryz.underlying3 rfl rfl (hH2.cell (i := 0) rfl (relC_N _))) ?_
  refine RL.val rfl (run_lss rfl rfl) ?_
  refine RL.val rfl (run_move (v := B _) rfl) ?_
  refine RL.splitP (dj := 12) rfl (fun h5 => ?_) (fun h5 => ?_)
  · refine RL.gF rfl rfl (bT h5) rfl ?_
    refine RL.gF rfl rfl (bT h5) rfl ?_
    refine RL.gF rfl rfl (bT h5) rfl ?_
    refine RL.val rfl (run_pickT (bT h5) (v := B true) rfl) ?_
    refine RL.val rfl (run_move (v := B _) rfl) ?_
    refine RL.gF rfl rfl rfl rfl ?_
    refine RL.gF rfl rfl rfl rfl ?_
    refine RL.gF rfl rfl rfl rfl ?_
    refine RL.val rfl (run_pickT rfl (v := B true) rfl) ?_
    refine RL.nil ?_
    refine CW.condT rfl ?_
    refine CW.seq ?_
    refine CW.region ?_
    refine RL.val rfl (run_assign (v := B false) rfl) ?_
    refine RL.nil ?_
    refine CW.ret ?_
    refine outP1 Tryz.results56 (congrArg B ?_) hH2.below
    first | exact (lat_no1 (by omega)).symm | exact (lat_no2 (nt ‹_›)).symm | exact (lat_no3 ‹i < r.n› j0 ‹j < i› (by rw [bothB, nt ‹(!(joinV r i j).2) = true›]; rfl)).symm | exact (lat_no3 ‹i < r.n› j0 ‹j < i› (by rw [bothB, nt ‹(!(meetV r i j).2) = true›]; simp)).symm | exact (lat_yes hn ho ‹_› hg).symm
  · refine RL.gT rfl (bF h5) ?_
    refine RL.val rfl (run_fieldAddr Tryz.underlying42 rfl (off := 0) rfl Tryz.sizeOf3 (by decide) rfl) ?_
    refine RL.gT rfl (bF h5) ?_
    refine RL.val rfl (run_ld Tryz.underlying3 rfl rfl (hH2.cell (i := 0) rfl (relC_N _))) ?_
    refine RL.gT rfl (bF h5) ?_
    refine RL.val rfl (run_gtr rfl rfl) ?_
    refine RL.val rfl (run_pickF (bF h5) (v := B _) rfl) ?_
    refine RL.val rfl (run_move (v := B _) rfl) ?_
    refine RL.splitP (dj := 17) rfl (fun h7 => ?_) (fun h7 => ?_)
    · refine RL.gF rfl rfl (bT h7) rfl ?_
      refine RL.gF rfl rfl (bT h7) rfl ?_
      refine RL.gF rfl rfl (bT h7) rfl ?_
      refine RL.val rfl (run_pickT (bT h7) (v := B true) rfl) ?_
      refine RL.nil ?_
      refine CW.condT rfl ?_
      refine CW.seq ?_
      refine CW.region ?_
      refine RL.val rfl (run_assign (v := B false) rfl) ?_
      refine RL.nil ?_
      refine CW.ret ?_
      refine outP1 Tryz.results56 (congrArg B ?_) hH2.below
      first | exact (lat_no1 (by omega)).symm | exact (lat_no2 (nt ‹_›)).symm | exact (lat_no3 ‹i < r.n› j0 ‹j < i› (by rw [bothB, nt ‹(!(joinV r i j).2) = true›]; rfl)).symm | exact (lat_no3 ‹i < r.n› j0 ‹j < i› (by rw [bothB, nt ‹(!(meetV r i j).2) = true›]; simp)).symm | exact (lat_yes hn ho ‹_› hg).symm
    · refine RL.gT rfl (bF h7) ?_
      refine RL.val rfl (run_ldRel Tryz.underlying42 rfl rfl rfl (hH2.blk (i := 0) rfl)) ?_
      refine RL.gT rfl (bF h7) ?_
      refine RL.callP rfl hH2 (c_clearanceref03_Order _  _) (run_call1 Tryz.call70 rfl) ?_
      intro w8 hH9
      refine RL.gT rfl (bF h7) ?_
      refine RL.val rfl (run_not rfl) ?_
      refine RL.val rfl (run_pickF (bF h7) (v := B _) rfl) ?_
      refine RL.nil ?_
      refine CW.cond rfl (fun h12 => ?_) (fun h12 => ?_)
      · refine CW.seq ?_
        refine CW.region ?_
        refine RL.val rfl (run_assign (v := B false) rfl) ?_
        refine RL.nil ?_
        refine CW.ret ?_
        refine outP1 Tryz.results56 (congrArg B ?_) hH9.below
        first | exact (lat_no1 (by omega)).symm | exact (lat_no2 (nt ‹_›)).symm | exact (lat_no3 ‹i < r.n› j0 ‹j < i› (by rw [bothB, nt ‹(!(joinV r i j).2) = true›]; rfl)).symm | exact (lat_no3 ‹i < r.n› j0 ‹j < i› (by rw [bothB, nt ‹(!(meetV r i j).2) = true›]; simp)).symm | exact (lat_yes hn ho ‹_› hg).symm
      · refine CW.skip ?_
        refine CW.seq ?_
        refine CW.seq ?_
        refine CW.region ?_
        refine RL.val rfl (run_assign (v := I 0) rfl) ?_
        refine RL.nil ?_
        refine CW.block ?_
        have hn : 1 ≤ r.n ∧ r.n ≤ 64 := by omega
        have ho : orderB r = true := nf ‹_›
        refine CW.loop (G := (Int)) (fun (i : Int) s' w' => (Fr [2, 3, 4, 5, 6, 7, 8, 22, 23, 24, 25, 26, 27, 28, 29, 30, 31, 32, 33, 34, 35, 36, 37, 38, 39, 40, 41, 42, 43, 44, 45, 46, 47, 48, 49, 50, 51, 52] _ s') ∧ (Hp w w' _) ∧ (s' 3 = I i) ∧ (0 ≤ i) ∧ (i ≤ r.n) ∧ (∀ a b : Int, 0 ≤ b → b < a → a < i → bothB r a b = true)) (fun (i : Int) => (r.n - i).toNat) (0) ⟨Fr.refl _ _, hH9, rfl, (by omega), (by omega), fun a b x y z => absurd z (by omega)⟩ ?_
        rintro i sg13 w13 ⟨fr13, hH13, e3_13, i0, i1, hg⟩
        have e1_13 : sg13 1 = .pointer (some ⟨_, _, none⟩) := (fr13 1 rfl).trans rfl
        refine CW.seq ?_
        refine CW.seq ?_
        refine CW.region ?_
        refine RL.val rfl (run_move e3_13) ?_
        refine RL.val rfl (run_fieldAddr Tryz.underlying42 rfl (off := 0) rfl Tryz.sizeOf3 (by decide) e1_13) ?_
        refine RL.val rfl (run_ld Tryz.underlying3 rfl rfl (hH13.cell (i := 0) rfl (relC_N _))) ?_
        refine RL.val rfl (run_lss rfl rfl) ?_
        refine RL.nil ?_
        refine CW.condP rfl (fun h15 => ?_) (fun h15 => ?_)
        · refine CW.skip ?_
          refine CW.seq ?_
          refine CW.block ?_
          refine CW.seq ?_
          refine CW.region ?_
          refine RL.val rfl (run_assign (v := I 0) rfl) ?_
          refine RL.nil ?_
          refine CW.block ?_
          refine CW.loop (G := (Int)) (fun (j : Int) s' w' => (Fr [2, 4, 5, 6, 7, 8, 28, 29, 30, 31, 32, 33, 34, 35, 36, 37, 38, 39, 40, 41, 42, 43, 44, 45, 46, 47, 48, 49, 50, 51, 52] _ s') ∧ (Hp w w' _) ∧ (s' 4 = I j) ∧ (0 ≤ j) ∧ (j ≤ i) ∧ (∀ b : Int, 0 ≤ b → b < j → bothB r i b = true)) (fun (j : Int) => (i - j).toNat) (0) ⟨Fr.refl _ _, hH13, rfl, (by omega), (by omega), fun b x y => absurd y (by omega)⟩ ?_
          rintro j sg16 w16 ⟨fr16, hH16, e4_16, j0, j1, hh⟩
          have e1_16 := (fr16 1 rfl).trans e1_13
          have e3_16 := (fr16 3 rfl).trans e3_13
          have e22_16 : sg16 22 = I _ := (fr16 22 rfl).trans rfl
          have e23_16 : sg16 23 = .pointer (some ⟨_, _, none⟩) := (fr16 23 rfl).trans rfl
          have e24_16 : sg16 24 = I _ := (fr16 24 rfl).trans rfl
          have e25_16 : sg16 25 = B _ := (fr16 25 rfl).trans rfl
          refine CW.seq ?_
          refine CW.seq ?_
          refine CW.region ?_
          refine RL.val rfl (run_move e4_16) ?_
          refine RL.val rfl (run_move e3_16) ?_
          refine RL.val rfl (run_lss rfl rfl) ?_
          refine RL.nil ?_
          refine CW.condP rfl (fun h18 => ?_) (fun h18 => ?_)
          · refine CW.skip ?_
            refine CW.seq ?_
            refine CW.block ?_
            refine CW.seq ?_
            refine CW.region ?_
            refine RL.val rfl (run_ldRel Tryz.underlying42 rfl rfl e1_16 (hH16.blk (i := 0) rfl)) ?_
            refine RL.val rfl (run_move e3_16) ?_
            refine RL.val rfl (run_move e4_16) ?_
            refine RL.callP rfl hH16 (c_clearanceref06_Join _ _ _  _) (run_call3 Tryz.call80 rfl rfl rfl) ?_
            intro w19 hH20
            refine RL.val rfl (run_move (by conv => lhs; whnf)) ?_
            refine RL.val rfl (run_extract rfl (v := I _) rfl) ?_
            refine RL.val rfl (run_extract rfl (v := B _) rfl) ?_
            refine RL.val rfl (run_assign (v := I _) rfl) ?_
            refine RL.val rfl (run_assign (v := B _) rfl) ?_
            refine RL.nil ?_
            refine CW.seq ?_
            refine CW.region ?_
            refine RL.val rfl (run_ldRel Tryz.underlying42 rfl rfl e1_16 (hH20.blk (i := 0) rfl)) ?_
            refine RL.val rfl (run_move e3_16) ?_
            refine RL.val rfl (run_move e4_16) ?_
            refine RL.callP rfl hH20 (c_clearanceref06_Meet _ _ _  _) (run_call3 Tryz.call90 rfl rfl rfl) ?_
            intro w22 hH23
            refine RL.val rfl (run_move (by conv => lhs; whnf)) ?_
            refine RL.val rfl (run_extract rfl (v := I _) rfl) ?_
            refine RL.val rfl (run_extract rfl (v := B _) rfl) ?_
            refine RL.val rfl (run_assign (v := I _) rfl) ?_
            refine RL.val rfl (run_assign (v := B _) rfl) ?_
            refine RL.nil ?_
            refine CW.seq ?_
            refine CW.region ?_
            refine RL.val rfl (run_move (v := B _) rfl) ?_
            refine RL.val rfl (run_not rfl) ?_
            refine RL.val rfl (run_move (v := B _) rfl) ?_
            refine RL.split (dj := 49) rfl (fun h26 => ?_) (fun h26 => ?_)
            · refine RL.gF rfl rfl (bR (c := true) h26) rfl ?_
              refine RL.gF rfl rfl (bR (c := true) h26) rfl ?_
              refine RL.val rfl (run_pickT (bR (c := true) h26) (v := B true) rfl) ?_
              refine RL.nil ?_
              refine CW.condT rfl ?_
              refine CW.seq ?_
              refine CW.region ?_
              refine RL.val rfl (run_assign (v := B false) rfl) ?_
              refine RL.nil ?_
              refine CW.ret ?_
              refine outP1 Tryz.results56 (congrArg B ?_) hH23.below
              first | exact (lat_no1 (by omega)).symm | exact (lat_no2 (nt ‹_›)).symm | exact (lat_no3 ‹i < r.n› j0 ‹j < i› (by rw [bothB, nt ‹(!(joinV r i j).2) = true›]; rfl)).symm | exact (lat_no3 ‹i < r.n› j0 ‹j < i› (by rw [bothB, nt ‹(!(meetV r i j).2) = true›]; simp)).symm | exact (lat_yes hn ho ‹_› hg).symm
            · refine RL.gT rfl (bR (c := false) h26) ?_
              refine RL.val rfl (run_move (v := B _) rfl) ?_
              refine RL.gT rfl (bR (c := false) h26) ?_
              refine RL.val rfl (run_not rfl) ?_
              refine RL.val rfl (run_pickF (bR (c := false) h26) (v := B _) rfl) ?_
              refine RL.nil ?_
              refine CW.cond rfl (fun h28 => ?_) (fun h28 => ?_)
              · refine CW.seq ?_
                refine CW.region ?_
                refine RL.val rfl (run_assign (v := B false) rfl) ?_
                refine RL.nil ?_
                refine CW.ret ?_
                refine outP1 Tryz.results56 (congrArg B ?_) hH23.below
                first | exact (lat_no1 (by omega)).symm | exact (lat_no2 (nt ‹_›)).symm | exact (lat_no3 ‹i < r.n› j0 ‹j < i› (by rw [bothB, nt ‹(!(joinV r i j).2) = true›]; rfl)).symm | exact (lat_no3 ‹i < r.n› j0 ‹j < i› (by rw [bothB, nt ‹(!(meetV r i j).2) = true›]; simp)).symm | exact (lat_yes hn ho ‹_› hg).symm
              · refine CW.skip ?_
                refine CW.region ?_
                refine RL.val rfl (run_move e4_16) ?_
                refine RL.val rfl (run_add rfl rfl (by omega)) ?_
                refine RL.val rfl (run_assign (v := I _) rfl) ?_
                refine RL.nil ?_
                refine ⟨j + 1, ?_, (((((((((((((((((((((((((((((fr16.u rfl).u rfl).u rfl).u rfl).u rfl).u rfl).u rfl).u rfl).u rfl).u rfl).u rfl).u rfl).u rfl).u rfl).u rfl).u rfl).u rfl).u rfl).u rfl).u rfl).u rfl).u rfl).u rfl).u rfl).u rfl).u rfl).u rfl).u rfl).u rfl).u rfl, hH23, (congrArg I (by first | rfl | omega)), ?_, ?_, ?_⟩
                · ((try dsimp only); omega)
                · omega
                · omega
                · exact fun b x y => if e : b = j then e ▸ (by rw [bothB, Bool.and_eq_true]; exact ⟨nf ‹(!(joinV r i j).2) = false›, nf ‹(!(meetV r i j).2) = false›⟩) else hh b x (by omega)
          · refine CW.exit (id := 2) rfl ?_
            refine CW.region ?_
            refine RL.val rfl (run_move e3_16) ?_
            refine RL.val rfl (run_add rfl rfl (by omega)) ?_
            refine RL.val rfl (run_assign (v := I _) rfl) ?_
            refine RL.nil ?_
            refine ⟨i + 1, ?_, ((((((((((((fr13.u rfl).u rfl).u rfl).u rfl).u rfl).t fr16 rfl)).u rfl).u rfl).u rfl).u rfl).u rfl).u rfl, hH16, (congrArg I (by first | rfl | omega)), ?_, ?_, ?_⟩
            · ((try dsimp only); omega)
            · omega
            · omega
            · exact fun a b x y z => if e : a = i then e ▸ hh b x (by omega) else hg a b x y (by omega)
        · refine CW.exit (id := 0) rfl ?_
          refine CW.seq ?_
          refine CW.region ?_
          refine RL.val rfl (run_assign (v := B true) rfl) ?_
          refine RL.nil ?_
          refine CW.ret ?_
          refine outP1 Tryz.results56 (congrArg B ?_) hH13.below
          first | exact (lat_no1 (by omega)).symm | exact (lat_no2 (nt ‹_›)).symm | exact (lat_no3 ‹i < r.n› j0 ‹j < i› (by rw [bothB, nt ‹(!(joinV r i j).2) = true›]; rfl)).symm | exact (lat_no3 ‹i < r.n› j0 ‹j < i› (by rw [bothB, nt ‹(!(meetV r i j).2) = true›]; simp)).symm | exact (lat_yes hn ho ‹_› hg).symm

theorem c_clearanceref06_Word (r : Rl) (i : Int) (w : World) : Calls Tryz.prog 34 #[.agg (relC r), I i] w (Pure (U (belowR r i)) w) := by
  have hp := pts_bd r
  refine enter Tryz.func34 rfl Tryz.ntmps34 rfl ?_
  have hH := Hp.start w
  refine CW.seq ?_
  refine CW.region ?_
  refine RL.new rfl hH (f := fun b => (.pointer (some ⟨b, 0, none⟩))) (run_box (v := .agg _) rfl) ?_
  intro b3 w1 hH2
  refine RL.val rfl (run_assign (v := U 0#64) rfl) ?_
  refine RL.nil ?_
  refine CW.seq ?_
  refine CW.region ?_
  refine RL.val rfl (run_assign (v := .slice none 0 0) rfl) ?_
  have hH4 := hH2.nilRow 3 1
  refine RL.nil ?_
  refine CW.seq ?_
  refine CW.seq ?_
  refine CW.region ?_
  refine RL.val rfl (run_assign (v := I 0) rfl) ?_
  refine RL.nil ?_
  refine CW.block ?_
  refine CW.loop (G := (Int) × (List Int) × (Value)) (fun (⟨k, l, v5⟩ : (Int) × (List Int) × (Value)) s' w' => (Fr [5, 6, 7, 8, 9, 10, 11, 12, 13, 14, 15, 16, 17, 18, 19, 20] _ s') ∧ (Hp w w' (.row v5 3 1 (l.length) (l.map I) :: _)) ∧ (s' 5 = v5) ∧ (s' 6 = I k) ∧ (0 ≤ k) ∧ (k ≤ pts r) ∧ (l = downTo' r i k)) (fun (⟨k, l, v5⟩ : (Int) × (List Int) × (Value)) => (pts r - k).toNat) ((0, [], (.slice none 0 0 : Value))) ⟨Fr.refl _ _, hH4, rfl, rfl, (by omega), (by omega), rfl⟩ ?_
  rintro ⟨k, l, v5⟩ sg5 w5 ⟨fr5, hH5, e5_5, e6_5, k0, k1, hl⟩
  have e1_5 : sg5 1 = I _ := (fr5 1 rfl).trans rfl
  have e2_5 : sg5 2 = .pointer (some ⟨_, _, none⟩) := (fr5 2 rfl).trans rfl
  have e4_5 : sg5 4 = U _ := (fr5 4 rfl).trans rfl
  refine CW.seq ?_
  refine CW.seq ?_
  refine CW.region ?_
  refine RL.val rfl (run_move e6_5) ?_
  refine RL.val rfl (run_ldRel Tryz.underlying42 rfl rfl e2_5 (hH5.blk (i := 1) rfl)) ?_
  refine RL.callP rfl hH5 (c_clearanceref03_Points _  _) (run_call1 Tryz.call54 rfl) ?_
  intro w6 hH7
  refine RL.val rfl (run_lss rfl rfl) ?_
  refine RL.nil ?_
  refine CW.condP rfl (fun h9 => ?_) (fun h9 => ?_)
  · refine CW.skip ?_
    refine CW.seq ?_
    refine CW.block ?_
    refine CW.seq ?_
    refine CW.region ?_
    refine RL.val rfl (run_ldRel Tryz.underlying42 rfl rfl e2_5 (hH7.blk (i := 1) rfl)) ?_
    refine RL.val rfl (run_move e6_5) ?_
    refine RL.val rfl (run_move e1_5) ?_
    refine RL.callP rfl hH7 (c_clearanceref03_Has _ _ _  _) (run_call3 Tryz.call61 rfl rfl rfl) ?_
    intro w10 hH11
    refine RL.nil ?_
    refine CW.cond rfl (fun h13 => ?_) (fun h13 => ?_)
    · refine CW.region ?_
      refine RL.val rfl (run_move e5_5) ?_
      refine RL.val rfl (run_move e6_5) ?_
      refine RL.new rfl hH11 (f := fun b => (.slice (some ⟨b, 0, none⟩) 1 1)) (run_mkL Tryz.underlying72 rfl rfl (sz := 1) (vs := [I _]) rfl rfl (by decide) (by decide) rfl rfl) ?_
      intro b16 w14 hH15
      (try simp only [List.flatMap_cons, List.flatMap_nil, clI, clB, clS, clP, clL, clA, List.append_nil, List.cons_append, List.nil_append] at hH15)
      refine RL.app rfl hH15 (i := 1) rfl (hH15.slBlk (i := 0) (n := 1) (sz := 1) rfl rfl (by decide)) rfl rfl Tryz.underlying72 rfl rfl (size := 1) (bytes := 8) rfl rfl rfl (by decide) (by simp [Value.oneCell']) (by have := @downs_len r i k; rw [← hl] at this; omega) (by have := @downs_len r i k; rw [← hl] at this; simp only [maxLen]; omega) ?_
      intro v17 w18 hH19
      simp only [List.set_cons_zero, List.set_cons_succ] at hH19
      refine RL.val rfl (run_assign (by conv => lhs; whnf)) ?_
      refine RL.nil ?_
      refine CW.region ?_
      refine RL.val rfl (run_move e6_5) ?_
      refine RL.val rfl (run_add rfl rfl (by omega)) ?_
      refine RL.val rfl (run_assign (v := I _) rfl) ?_
      refine RL.nil ?_
      refine ⟨(k + 1, l ++ [k], v17), ?_, (((((((((((((((fr5.u rfl).u rfl).u rfl).u rfl).u rfl).u rfl).u rfl).u rfl).u rfl).u rfl).u rfl).u rfl).u rfl).u rfl).u rfl).u rfl, (Hp.conv (hH19.sub (.cons _ (List.Sublist.refl _))) (by first | rfl | simp)), rfl, (congrArg I (by first | rfl | omega)), ?_, ?_, ?_⟩
      · ((try dsimp only); omega)
      · omega
      · omega
      · first | (rw [hl]; exact downs_yes k0 ‹_›) | (rw [hl]; exact downs_no k0 ‹_›)
    · refine CW.skip ?_
      refine CW.region ?_
      refine RL.val rfl (run_move e6_5) ?_
      refine RL.val rfl (run_add rfl rfl (by omega)) ?_
      refine RL.val rfl (run_assign (v := I _) rfl) ?_
      refine RL.nil ?_
      refine ⟨(k + 1, l, v5), ?_, ((((((((((fr5.u rfl).u rfl).u rfl).u rfl).u rfl).u rfl).u rfl).u rfl).u rfl).u rfl).u rfl, (Hp.conv hH11 (by first | rfl | simp)), e5_5, (congrArg I (by first | rfl | omega)), ?_, ?_, ?_⟩
      · ((try dsimp only); omega)
      · omega
      · omega
      · first | (rw [hl]; exact downs_yes k0 ‹_›) | (rw [hl]; exact downs_no k0 ‹_›)
  · refine CW.exit (id := 0) rfl ?_
    refine CW.seq ?_
    refine CW.region ?_
    refine RL.val rfl (run_move e5_5) ?_
    refine RL.callP rfl hH7 (c_clearanceref01_Of _ _  _ (hH7.sl (i := 0) rfl)) (run_call1 Tryz.call62 rfl) ?_
    intro w20 hH21
    refine RL.val rfl (run_assign (v := U _) rfl) ?_
    refine RL.nil ?_
    refine CW.ret ?_
    refine outP1 Tryz.results34 (congrArg U ?_) hH21.below
    (rw [hl]; exact downs_all (by omega))

theorem c_clearanceref06_Point (r : Rl) (s : BitVec 64) (w : World) : Calls Tryz.prog 76 #[.agg (relC r), U s] w (Pure (.tuple #[I (pointV r s).1, B (pointV r s).2]) w) := by
  have hp := pts_bd r
  refine enter Tryz.func76 rfl Tryz.ntmps76 rfl ?_
  have hH := Hp.start w
  refine CW.seq ?_
  refine CW.region ?_
  refine RL.new rfl hH (f := fun b => (.pointer (some ⟨b, 0, none⟩))) (run_box (v := .agg _) rfl) ?_
  intro b3 w1 hH2
  refine RL.val rfl (run_assign (v := I 0) rfl) ?_
  refine RL.val rfl (run_assign (v := B false) rfl) ?_
  refine RL.nil ?_
  refine CW.seq ?_
  refine CW.seq ?_
  refine CW.region ?_
  refine RL.val rfl (run_assign (v := I 0) rfl) ?_
  refine RL.nil ?_
  refine CW.block ?_
  refine CW.loop (G := (Int)) (fun (k : Int) s' w' => (Fr [4, 5, 6, 7, 8, 9, 10, 11, 12, 13, 14, 15, 16, 17, 18] _ s') ∧ (Hp w w' _) ∧ (s' 6 = I k) ∧ (0 ≤ k) ∧ (k ≤ pts r) ∧ (∀ j : Int, 0 ≤ j → j < k → belowR r j ≠ s)) (fun (k : Int) => (pts r - k).toNat) (0) ⟨Fr.refl _ _, hH2, rfl, (by omega), (by omega), fun j x y => absurd y (by omega)⟩ ?_
  rintro k sg4 w4 ⟨fr4, hH4, e6_4, h0, hk, hg⟩
  have e1_4 : sg4 1 = U _ := (fr4 1 rfl).trans rfl
  have e2_4 : sg4 2 = .pointer (some ⟨_, _, none⟩) := (fr4 2 rfl).trans rfl
  refine CW.seq ?_
  refine CW.seq ?_
  refine CW.region ?_
  refine RL.val rfl (run_move e6_4) ?_
  refine RL.val rfl (run_ldRel Tryz.underlying42 rfl rfl e2_4 (hH4.blk (i := 0) rfl)) ?_
  refine RL.callP rfl hH4 (c_clearanceref03_Points _  _) (run_call1 Tryz.call54 rfl) ?_
  intro w5 hH6
  refine RL.val rfl (run_lss rfl rfl) ?_
  refine RL.nil ?_
  refine CW.condP rfl (fun h8 => ?_) (fun h8 => ?_)
  · refine CW.skip ?_
    refine CW.seq ?_
    refine CW.block ?_
    refine CW.seq ?_
    refine CW.region ?_
    refine RL.val rfl (run_ldRel Tryz.underlying42 rfl rfl e2_4 (hH6.blk (i := 0) rfl)) ?_
    refine RL.val rfl (run_move e6_4) ?_
    refine RL.callP rfl hH6 (c_clearanceref06_Word _ _  _) (run_call2 Tryz.call34 rfl rfl) ?_
    intro w9 hH10
    refine RL.val rfl (run_move e1_4) ?_
    refine RL.val rfl (run_eqlU rfl rfl) ?_
    refine RL.nil ?_
    refine CW.condP rfl (fun h12 => ?_) (fun h12 => ?_)
    · refine CW.seq ?_
      refine CW.region ?_
      refine RL.val rfl (run_move e6_4) ?_
      refine RL.val rfl (run_assign (v := I _) rfl) ?_
      refine RL.val rfl (run_assign (v := B true) rfl) ?_
      refine RL.nil ?_
      refine CW.ret ?_
      refine outP2 Tryz.results76 (congrArg I ?_) (congrArg B ?_) hH10.below <;> rw [point_yes h0 ‹_› ‹_› hg]
    · refine CW.skip ?_
      refine CW.region ?_
      refine RL.val rfl (run_move e6_4) ?_
      refine RL.val rfl (run_add rfl rfl (by omega)) ?_
      refine RL.val rfl (run_assign (v := I _) rfl) ?_
      refine RL.nil ?_
      refine ⟨k + 1, ?_, (((((((((((fr4.u rfl).u rfl).u rfl).u rfl).u rfl).u rfl).u rfl).u rfl).u rfl).u rfl).u rfl).u rfl, hH10, (congrArg I (by first | rfl | omega)), ?_, ?_, ?_⟩
      · ((try dsimp only); omega)
      · omega
      · omega
      · exact fun j x y => if e : j = k then e ▸ ‹¬ belowR r k = s› else hg j x (by omega)
  · refine CW.exit (id := 0) rfl ?_
    refine CW.seq ?_
    refine CW.region ?_
    refine RL.val rfl (run_assign (v := I 0) rfl) ?_
    refine RL.val rfl (run_assign (v := B false) rfl) ?_
    refine RL.nil ?_
    refine CW.ret ?_
    refine outP2 Tryz.results76 (congrArg I ?_) (congrArg B ?_) hH6.below <;> rw [point_no ‹_› hg]

theorem c_clearanceref06_Raise (r : Rl) (a b : BitVec 64) (w : World) : Calls Tryz.prog 46 #[.agg (relC r), U a, U b] w (Pure (U (raiseV r a b)) w) := by
  refine enter Tryz.func46 rfl Tryz.ntmps46 rfl ?_
  have hH := Hp.start w
  refine CW.seq ?_
  refine CW.region ?_
  refine RL.new rfl hH (f := fun b => (.pointer (some ⟨b, 0, none⟩))) (run_box (v := .agg _) rfl) ?_
  intro b3 w1 hH2
  refine RL.val rfl (run_assign (v := U 0#64) rfl) ?_
  refine RL.nil ?_
  refine CW.seq ?_
  refine CW.region ?_
  refine RL.val rfl (run_ldRel Tryz.underlying42 rfl rfl rfl (hH2.blk (i := 0) rfl)) ?_
  refine RL.val rfl (run_move (v := U _) rfl) ?_
  refine RL.callP rfl hH2 (c_clearanceref06_Point _ _  _) (run_call2 Tryz.call76 rfl rfl) ?_
  intro w4 hH5
  refine RL.val rfl (run_move (by conv => lhs; whnf)) ?_
  refine RL.val rfl (run_extract rfl (v := I _) rfl) ?_
  refine RL.val rfl (run_extract rfl (v := B _) rfl) ?_
  refine RL.val rfl (run_assign (v := I _) rfl) ?_
  refine RL.val rfl (run_assign (v := B _) rfl) ?_
  refine RL.nil ?_
  refine CW.seq ?_
  refine CW.region ?_
  refine RL.val rfl (run_ldRel Tryz.underlying42 rfl rfl rfl (hH5.blk (i := 0) rfl)) ?_
  refine RL.val rfl (run_move (v := U _) rfl) ?_
  refine RL.callP rfl hH5 (c_clearanceref06_Point _ _  _) (run_call2 Tryz.call76 rfl rfl) ?_
  intro w7 hH8
  refine RL.val rfl (run_move (by conv => lhs; whnf)) ?_
  refine RL.val rfl (run_extract rfl (v := I _) rfl) ?_
  refine RL.val rfl (run_extract rfl (v := B _) rfl) ?_
  refine RL.val rfl (run_assign (v := I _) rfl) ?_
  refine RL.val rfl (run_assign (v := B _) rfl) ?_
  refine RL.nil ?_
  refine CW.seq ?_
  refine CW.region ?_
  refine RL.val rfl (run_ldRel Tryz.underlying42 rfl rfl rfl (hH8.blk (i := 0) rfl)) ?_
  refine RL.val rfl (run_move (v := I _) rfl) ?_
  refine RL.val rfl (run_move (v := I _) rfl) ?_
  refine RL.callP rfl hH8 (c_clearanceref06_Join _ _ _  _) (run_call3 Tryz.call80 rfl rfl rfl) ?_
  intro w10 hH11
  refine RL.val rfl (run_move (by conv => lhs; whnf)) ?_
  refine RL.val rfl (run_extract rfl (v := I _) rfl) ?_
  refine RL.val rfl (run_extract rfl (v := B _) rfl) ?_
  refine RL.val rfl (run_assign (v := I _) rfl) ?_
  refine RL.val rfl (run_assign (v := B _) rfl) ?_
  refine RL.nil ?_
  refine CW.seq ?_
  refine CW.seq ?_
  refine CW.region ?_
  refine RL.val rfl (run_move (v := B _) rfl) ?_
  refine RL.val rfl (run_move (v := B _) rfl) ?_
  refine RL.split (dj := 33) rfl (fun h13 => ?_) (fun h13 => ?_)
  · refine RL.gT rfl (bR (c := true) h13) ?_
    refine RL.val rfl (run_move (v := B _) rfl) ?_
    refine RL.val rfl (run_pickT (bR (c := true) h13) (v := B _) rfl) ?_
    refine RL.val rfl (run_move (v := B _) rfl) ?_
    refine RL.split (dj := 36) rfl (fun h14 => ?_) (fun h14 => ?_)
    · refine RL.gT rfl (bR (c := true) h14) ?_
      refine RL.val rfl (run_move (v := B _) rfl) ?_
      refine RL.val rfl (run_pickT (bR (c := true) h14) (v := B _) rfl) ?_
      refine RL.nil ?_
      refine CW.cond rfl (fun h15 => ?_) (fun h15 => ?_)
      · refine CW.seq ?_
        refine CW.region ?_
        refine RL.val rfl (run_ldRel Tryz.underlying42 rfl rfl rfl (hH11.blk (i := 0) rfl)) ?_
        refine RL.val rfl (run_move (v := I _) rfl) ?_
        refine RL.callP rfl hH11 (c_clearanceref06_Word _ _  _) (run_call2 Tryz.call34 rfl rfl) ?_
        intro w16 hH17
        refine RL.val rfl (run_assign (v := U _) rfl) ?_
        refine RL.nil ?_
        refine CW.ret ?_
        refine outP1 Tryz.results46 (congrArg U ?_) hH17.below
        first | rw [raise_yes ‹_› ‹_› ‹_›] | rw [raise_no1 ‹_›] | rw [raise_no2 ‹_›] | rw [raise_no3 ‹_›]
      · refine CW.skip ?_
        refine CW.seq ?_
        refine CW.region ?_
        refine RL.val rfl (run_move (v := U _) rfl) ?_
        refine RL.val rfl (run_move (v := U _) rfl) ?_
        refine RL.val rfl (run_orU rfl rfl) ?_
        refine RL.val rfl (run_assign (v := U _) rfl) ?_
        refine RL.nil ?_
        refine CW.ret ?_
        refine outP1 Tryz.results46 (congrArg U ?_) hH11.below
        first | rw [raise_yes ‹_› ‹_› ‹_›] | rw [raise_no1 ‹_›] | rw [raise_no2 ‹_›] | rw [raise_no3 ‹_›]
    · refine RL.gF rfl rfl (bR (c := false) h14) rfl ?_
      refine RL.val rfl (run_pickF (bR (c := false) h14) (v := B false) rfl) ?_
      refine RL.nil ?_
      refine CW.condF rfl ?_
      refine CW.skip ?_
      refine CW.seq ?_
      refine CW.region ?_
      refine RL.val rfl (run_move (v := U _) rfl) ?_
      refine RL.val rfl (run_move (v := U _) rfl) ?_
      refine RL.val rfl (run_orU rfl rfl) ?_
      refine RL.val rfl (run_assign (v := U _) rfl) ?_
      refine RL.nil ?_
      refine CW.ret ?_
      refine outP1 Tryz.results46 (congrArg U ?_) hH11.below
      first | rw [raise_yes ‹_› ‹_› ‹_›] | rw [raise_no1 ‹_›] | rw [raise_no2 ‹_›] | rw [raise_no3 ‹_›]
  · refine RL.gF rfl rfl (bR (c := false) h13) rfl ?_
    refine RL.val rfl (run_pickF (bR (c := false) h13) (v := B false) rfl) ?_
    refine RL.val rfl (run_move (v := B _) rfl) ?_
    refine RL.gF rfl rfl rfl rfl ?_
    refine RL.val rfl (run_pickF rfl (v := B false) rfl) ?_
    refine RL.nil ?_
    refine CW.condF rfl ?_
    refine CW.skip ?_
    refine CW.seq ?_
    refine CW.region ?_
    refine RL.val rfl (run_move (v := U _) rfl) ?_
    refine RL.val rfl (run_move (v := U _) rfl) ?_
    refine RL.val rfl (run_orU rfl rfl) ?_
    refine RL.val rfl (run_assign (v := U _) rfl) ?_
    refine RL.nil ?_
    refine CW.ret ?_
    refine outP1 Tryz.results46 (congrArg U ?_) hH11.below
    first | rw [raise_yes ‹_› ‹_› ‹_›] | rw [raise_no1 ‹_›] | rw [raise_no2 ‹_›] | rw [raise_no3 ‹_›]

theorem c_clearanceref06_End (r : Rl) (t : Bool) (w : World) : Calls Tryz.prog 33 #[.agg (relC r), B t] w (Pure (.tuple #[I (endV r (if t = true then belowR r else aboveR r)).1, B (endV r (if t = true then belowR r else aboveR r)).2]) w) := by
  have hp := pts_bd r
  refine enter Tryz.func33 rfl Tryz.ntmps33 rfl ?_
  have hH := Hp.start w
  refine CW.seq ?_
  refine CW.region ?_
  refine RL.new rfl hH (f := fun b => (.pointer (some ⟨b, 0, none⟩))) (run_box (v := .agg _) rfl) ?_
  intro b4 w2 hH3
  refine RL.val rfl (run_assign (v := I 0) rfl) ?_
  refine RL.val rfl (run_assign (v := B false) rfl) ?_
  refine RL.nil ?_
  refine CW.seq ?_
  refine CW.seq ?_
  refine CW.region ?_
  refine RL.val rfl (run_assign (v := I 0) rfl) ?_
  refine RL.nil ?_
  refine CW.block ?_
  refine CW.loop (G := (Int)) (fun (i : Int) s' w' => (Fr [4, 5, 6, 7, 8, 9, 10, 11, 12, 13, 14, 15, 16, 17, 18, 19, 20, 21, 22, 23, 24, 25, 26, 27, 28, 29, 30, 31, 32, 33, 34, 35, 36, 37, 38, 39, 40, 41] _ s') ∧ (Hp w w' _) ∧ (s' 6 = I i) ∧ (0 ≤ i) ∧ (i ≤ pts r) ∧ (∀ x : Int, 0 ≤ x → x < i → endP r t x (pts r) = false)) (fun (i : Int) => (pts r - i).toNat) (0) ⟨Fr.refl _ _, hH3, rfl, (by omega), (by omega), fun x a b => absurd b (by omega)⟩ ?_
  rintro i sg5 w5 ⟨fr5, hH5, e6_5, i0, i1, hg⟩
  have e1_5 : sg5 1 = B _ := (fr5 1 rfl).trans rfl
  have e2_5 : sg5 2 = .pointer (some ⟨_, _, none⟩) := (fr5 2 rfl).trans rfl
  refine CW.seq ?_
  refine CW.seq ?_
  refine CW.region ?_
  refine RL.val rfl (run_move e6_5) ?_
  refine RL.val rfl (run_ldRel Tryz.underlying42 rfl rfl e2_5 (hH5.blk (i := 0) rfl)) ?_
  refine RL.callP rfl hH5 (c_clearanceref03_Points _  _) (run_call1 Tryz.call54 rfl) ?_
  intro w6 hH7
  refine RL.val rfl (run_lss rfl rfl) ?_
  refine RL.nil ?_
  refine CW.condP rfl (fun h9 => ?_) (fun h9 => ?_)
  · refine CW.skip ?_
    refine CW.seq ?_
    refine CW.block ?_
    refine CW.seq ?_
    refine CW.region ?_
    refine RL.val rfl (run_assign (v := B true) rfl) ?_
    refine RL.nil ?_
    refine CW.seq ?_
    refine CW.seq ?_
    refine CW.region ?_
    refine RL.val rfl (run_assign (v := I 0) rfl) ?_
    refine RL.nil ?_
    refine CW.block ?_
    refine CW.loop (G := (Int)) (fun (k : Int) s' w' => (Fr [7, 8, 15, 16, 17, 18, 19, 20, 21, 22, 23, 24, 25, 26, 27, 28, 29, 30, 31, 32, 33, 34, 35, 36, 37, 38, 39] _ s') ∧ (Hp w w' _) ∧ (s' 7 = B (endP r t i k)) ∧ (s' 8 = I k) ∧ (0 ≤ k) ∧ (k ≤ pts r)) (fun (k : Int) => (pts r - k).toNat) (0) ⟨Fr.refl _ _, hH7, (congrArg B (by simp [endP, upto])), rfl, (by omega), (by omega)⟩ ?_
    rintro k sg10 w10 ⟨fr10, hH10, e7_10, e8_10, k0, k1⟩
    have e1_10 := (fr10 1 rfl).trans e1_5
    have e2_10 := (fr10 2 rfl).trans e2_5
    have e6_10 := (fr10 6 rfl).trans e6_5
    have e9_10 : sg10 9 = I _ := (fr10 9 rfl).trans rfl
    have e10_10 : sg10 10 = .agg _ := (fr10 10 rfl).trans rfl
    have e11_10 : sg10 11 = I _ := (fr10 11 rfl).trans rfl
    have e12_10 : sg10 12 = B _ := (fr10 12 rfl).trans rfl
    refine CW.seq ?_
    refine CW.seq ?_
    refine CW.region ?_
    refine RL.val rfl (run_move e8_10) ?_
    refine RL.val rfl (run_ldRel Tryz.underlying42 rfl rfl e2_10 (hH10.blk (i := 0) rfl)) ?_
    refine RL.callP rfl hH10 (c_clearanceref03_Points _  _) (run_call1 Tryz.call54 rfl) ?_
    intro w12 hH13
    refine RL.val rfl (run_lss rfl rfl) ?_
    refine RL.nil ?_
    refine CW.condP rfl (fun h15 => ?_) (fun h15 => ?_)
    · refine CW.skip ?_
      refine CW.seq ?_
      refine CW.block ?_
      refine CW.seq ?_
      refine CW.region ?_
      refine RL.val rfl (run_move e1_10) ?_
      refine RL.val rfl (run_not rfl) ?_
      refine RL.val rfl (run_move (v := B _) rfl) ?_
      refine RL.split (dj := 23) rfl (fun h17 => ?_) (fun h17 => ?_)
      · refine RL.gT rfl (bR (c := true) h17) ?_
        refine RL.val rfl (run_ldRel Tryz.underlying42 rfl rfl e2_10 (hH13.blk (i := 0) rfl)) ?_
        refine RL.gT rfl (bR (c := true) h17) ?_
        refine RL.val rfl (run_move e6_10) ?_
        refine RL.gT rfl (bR (c := true) h17) ?_
        refine RL.val rfl (run_move e8_10) ?_
        refine RL.gT rfl (bR (c := true) h17) ?_
        refine RL.callP rfl hH13 (c_clearanceref03_Has _ _ _  _) (run_call3 Tryz.call61 rfl rfl rfl) ?_
        intro w18 hH19
        refine RL.gT rfl (bR (c := true) h17) ?_
        refine RL.val rfl (run_not rfl) ?_
        refine RL.val rfl (run_pickT (bR (c := true) h17) (v := B _) rfl) ?_
        refine RL.val rfl (run_move (v := B _) rfl) ?_
        refine RL.split (dj := 30) rfl (fun h22 => ?_) (fun h22 => ?_)
        · refine RL.gF rfl rfl (bR (c := true) h22) rfl ?_
          refine RL.gF rfl rfl (bR (c := true) h22) rfl ?_
          refine RL.gU rfl rfl rfl ?_
          refine RL.gU rfl rfl rfl ?_
          refine RL.gU rfl rfl rfl ?_
          refine RL.gU rfl rfl rfl ?_
          refine RL.gU rfl rfl rfl ?_
          refine RL.gF rfl rfl (bR (c := true) h22) rfl ?_
          refine RL.val rfl (run_pickT (bR (c := true) h22) (v := B true) rfl) ?_
          refine RL.nil ?_
          refine CW.condT rfl ?_
          refine CW.region ?_
          refine RL.val rfl (run_assign (v := B false) rfl) ?_
          refine RL.nil ?_
          refine CW.region ?_
          refine RL.val rfl (run_move e8_10) ?_
          refine RL.val rfl (run_add rfl rfl (by omega)) ?_
          refine RL.val rfl (run_assign (v := I _) rfl) ?_
          refine RL.nil ?_
          refine ⟨k + 1, ?_, ((((((((((((((((((((((((((fr10.u rfl).u rfl).u rfl).u rfl).u rfl).u rfl).u rfl).u rfl).u rfl).u rfl).u rfl).u rfl).u rfl).u rfl).u rfl).u rfl).u rfl).u rfl).u rfl).u rfl).u rfl).u rfl).u rfl).u rfl).u rfl).u rfl).u rfl, hH19, (congrArg B (by rw [endP_next k0]; simp_all)), (congrArg I (by first | rfl | omega)), ?_, ?_⟩
          · ((try dsimp only); omega)
          · omega
          · omega
        · refine RL.gT rfl (bR (c := false) h22) ?_
          refine RL.val rfl (run_move e1_10) ?_
          refine RL.gT rfl (bR (c := false) h22) ?_
          refine RL.val rfl (run_move (v := B _) rfl) ?_
          refine RL.split (dj := 32) rfl (fun h23 => ?_) (fun h23 => ?_)
          · refine RL.gT rfl (bR (c := true) h23) ?_
            refine RL.val rfl (run_ldRel Tryz.underlying42 rfl rfl e2_10 (hH19.blk (i := 0) rfl)) ?_
            refine RL.gT rfl (bR (c := true) h23) ?_
            refine RL.val rfl (run_move e8_10) ?_
            refine RL.gT rfl (bR (c := true) h23) ?_
            refine RL.val rfl (run_move e6_10) ?_
            refine RL.gT rfl (bR (c := true) h23) ?_
            refine RL.callP rfl hH19 (c_clearanceref03_Has _ _ _  _) (run_call3 Tryz.call61 rfl rfl rfl) ?_
            intro w24 hH25
            refine RL.gT rfl (bR (c := true) h23) ?_
            refine RL.val rfl (run_not rfl) ?_
            refine RL.gT rfl (bR (c := false) h22) ?_
            refine RL.val rfl (run_pickT (bR (c := true) h23) (v := B _) rfl) ?_
            refine RL.val rfl (run_pickF (bR (c := false) h22) (v := B _) rfl) ?_
            refine RL.nil ?_
            refine CW.cond rfl (fun h28 => ?_) (fun h28 => ?_)
            · refine CW.region ?_
              refine RL.val rfl (run_assign (v := B false) rfl) ?_
              refine RL.nil ?_
              refine CW.region ?_
              refine RL.val rfl (run_move e8_10) ?_
              refine RL.val rfl (run_add rfl rfl (by omega)) ?_
              refine RL.val rfl (run_assign (v := I _) rfl) ?_
              refine RL.nil ?_
              refine ⟨k + 1, ?_, ((((((((((((((((((((((((((fr10.u rfl).u rfl).u rfl).u rfl).u rfl).u rfl).u rfl).u rfl).u rfl).u rfl).u rfl).u rfl).u rfl).u rfl).u rfl).u rfl).u rfl).u rfl).u rfl).u rfl).u rfl).u rfl).u rfl).u rfl).u rfl).u rfl).u rfl, hH25, (congrArg B (by rw [endP_next k0]; simp_all)), (congrArg I (by first | rfl | omega)), ?_, ?_⟩
              · ((try dsimp only); omega)
              · omega
              · omega
            · refine CW.skip ?_
              refine CW.region ?_
              refine RL.val rfl (run_move e8_10) ?_
              refine RL.val rfl (run_add rfl rfl (by omega)) ?_
              refine RL.val rfl (run_assign (v := I _) rfl) ?_
              refine RL.nil ?_
              refine ⟨k + 1, ?_, (((((((((((((((((((((((((fr10.u rfl).u rfl).u rfl).u rfl).u rfl).u rfl).u rfl).u rfl).u rfl).u rfl).u rfl).u rfl).u rfl).u rfl).u rfl).u rfl).u rfl).u rfl).u rfl).u rfl).u rfl).u rfl).u rfl).u rfl).u rfl).u rfl, hH25, (Eq.trans e7_10 (congrArg B (by rw [endP_next k0]; simp_all))), (congrArg I (by first | rfl | omega)), ?_, ?_⟩
              · ((try dsimp only); omega)
              · omega
              · omega
          · refine RL.gF rfl rfl (bR (c := false) h23) rfl ?_
            refine RL.gF rfl rfl (bR (c := false) h23) rfl ?_
            refine RL.gF rfl rfl (bR (c := false) h23) rfl ?_
            refine RL.gF rfl rfl (bR (c := false) h23) rfl ?_
            refine RL.gF rfl rfl (bR (c := false) h23) rfl ?_
            refine RL.gT rfl (bR (c := false) h22) ?_
            refine RL.val rfl (run_pickF (bR (c := false) h23) (v := B false) rfl) ?_
            refine RL.val rfl (run_pickF (bR (c := false) h22) (v := B _) rfl) ?_
            refine RL.nil ?_
            refine CW.condF rfl ?_
            refine CW.skip ?_
            refine CW.region ?_
            refine RL.val rfl (run_move e8_10) ?_
            refine RL.val rfl (run_add rfl rfl (by omega)) ?_
            refine RL.val rfl (run_assign (v := I _) rfl) ?_
            refine RL.nil ?_
            refine ⟨k + 1, ?_, (((((((((((((((((((((((((fr10.u rfl).u rfl).u rfl).u rfl).u rfl).u rfl).u rfl).u rfl).u rfl).u rfl).u rfl).u rfl).u rfl).u rfl).u rfl).u rfl).u rfl).u rfl).u rfl).u rfl).u rfl).u rfl).u rfl).u rfl).u rfl).u rfl, hH19, (Eq.trans e7_10 (congrArg B (by rw [endP_next k0]; simp_all))), (congrArg I (by first | rfl | omega)), ?_, ?_⟩
            · ((try dsimp only); omega)
            · omega
            · omega
      · refine RL.gF rfl rfl (bR (c := false) h17) rfl ?_
        refine RL.gF rfl rfl (bR (c := false) h17) rfl ?_
        refine RL.gF rfl rfl (bR (c := false) h17) rfl ?_
        refine RL.gF rfl rfl (bR (c := false) h17) rfl ?_
        refine RL.gF rfl rfl (bR (c := false) h17) rfl ?_
        refine RL.val rfl (run_pickF (bR (c := false) h17) (v := B false) rfl) ?_
        refine RL.val rfl (run_move (v := B _) rfl) ?_
        refine RL.gT rfl rfl ?_
        refine RL.val rfl (run_move e1_10) ?_
        refine RL.gT rfl rfl ?_
        refine RL.val rfl (run_move (v := B _) rfl) ?_
        refine RL.split (dj := 32) rfl (fun h29 => ?_) (fun h29 => ?_)
        · refine RL.gT rfl (bR (c := true) h29) ?_
          refine RL.val rfl (run_ldRel Tryz.underlying42 rfl rfl e2_10 (hH13.blk (i := 0) rfl)) ?_
          refine RL.gT rfl (bR (c := true) h29) ?_
          refine RL.val rfl (run_move e8_10) ?_
          refine RL.gT rfl (bR (c := true) h29) ?_
          refine RL.val rfl (run_move e6_10) ?_
          refine RL.gT rfl (bR (c := true) h29) ?_
          refine RL.callP rfl hH13 (c_clearanceref03_Has _ _ _  _) (run_call3 Tryz.call61 rfl rfl rfl) ?_
          intro w30 hH31
          refine RL.gT rfl (bR (c := true) h29) ?_
          refine RL.val rfl (run_not rfl) ?_
          refine RL.gT rfl rfl ?_
          refine RL.val rfl (run_pickT (bR (c := true) h29) (v := B _) rfl) ?_
          refine RL.val rfl (run_pickF rfl (v := B _) rfl) ?_
          refine RL.nil ?_
          refine CW.cond rfl (fun h34 => ?_) (fun h34 => ?_)
          · refine CW.region ?_
            refine RL.val rfl (run_assign (v := B false) rfl) ?_
            refine RL.nil ?_
            refine CW.region ?_
            refine RL.val rfl (run_move e8_10) ?_
            refine RL.val rfl (run_add rfl rfl (by omega)) ?_
            refine RL.val rfl (run_assign (v := I _) rfl) ?_
            refine RL.nil ?_
            refine ⟨k + 1, ?_, ((((((((((((((((((((((((((fr10.u rfl).u rfl).u rfl).u rfl).u rfl).u rfl).u rfl).u rfl).u rfl).u rfl).u rfl).u rfl).u rfl).u rfl).u rfl).u rfl).u rfl).u rfl).u rfl).u rfl).u rfl).u rfl).u rfl).u rfl).u rfl).u rfl).u rfl, hH31, (congrArg B (by rw [endP_next k0]; simp_all)), (congrArg I (by first | rfl | omega)), ?_, ?_⟩
            · ((try dsimp only); omega)
            · omega
            · omega
          · refine CW.skip ?_
            refine CW.region ?_
            refine RL.val rfl (run_move e8_10) ?_
            refine RL.val rfl (run_add rfl rfl (by omega)) ?_
            refine RL.val rfl (run_assign (v := I _) rfl) ?_
            refine RL.nil ?_
            refine ⟨k + 1, ?_, (((((((((((((((((((((((((fr10.u rfl).u rfl).u rfl).u rfl).u rfl).u rfl).u rfl).u rfl).u rfl).u rfl).u rfl).u rfl).u rfl).u rfl).u rfl).u rfl).u rfl).u rfl).u rfl).u rfl).u rfl).u rfl).u rfl).u rfl).u rfl).u rfl, hH31, (Eq.trans e7_10 (congrArg B (by rw [endP_next k0]; simp_all))), (congrArg I (by first | rfl | omega)), ?_, ?_⟩
            · ((try dsimp only); omega)
            · omega
            · omega
        · refine RL.gF rfl rfl (bR (c := false) h29) rfl ?_
          refine RL.gF rfl rfl (bR (c := false) h29) rfl ?_
          refine RL.gF rfl rfl (bR (c := false) h29) rfl ?_
          refine RL.gF rfl rfl (bR (c := false) h29) rfl ?_
          refine RL.gF rfl rfl (bR (c := false) h29) rfl ?_
          refine RL.gT rfl rfl ?_
          refine RL.val rfl (run_pickF (bR (c := false) h29) (v := B false) rfl) ?_
          refine RL.val rfl (run_pickF rfl (v := B _) rfl) ?_
          refine RL.nil ?_
          refine CW.condF rfl ?_
          refine CW.skip ?_
          refine CW.region ?_
          refine RL.val rfl (run_move e8_10) ?_
          refine RL.val rfl (run_add rfl rfl (by omega)) ?_
          refine RL.val rfl (run_assign (v := I _) rfl) ?_
          refine RL.nil ?_
          refine ⟨k + 1, ?_, (((((((((((((((((((((((((fr10.u rfl).u rfl).u rfl).u rfl).u rfl).u rfl).u rfl).u rfl).u rfl).u rfl).u rfl).u rfl).u rfl).u rfl).u rfl).u rfl).u rfl).u rfl).u rfl).u rfl).u rfl).u rfl).u rfl).u rfl).u rfl).u rfl, hH13, (Eq.trans e7_10 (congrArg B (by rw [endP_next k0]; simp_all))), (congrArg I (by first | rfl | omega)), ?_, ?_⟩
          · ((try dsimp only); omega)
          · omega
          · omega
    · refine CW.exit (id := 2) rfl ?_
      refine CW.seq ?_
      refine CW.region ?_
      refine RL.val rfl (run_move e7_10) ?_
      refine RL.nil ?_
      refine CW.cond rfl (fun h35 => ?_) (fun h35 => ?_)
      · refine CW.seq ?_
        refine CW.region ?_
        refine RL.val rfl (run_move e6_10) ?_
        refine RL.val rfl (run_assign (v := I _) rfl) ?_
        refine RL.val rfl (run_assign (v := B true) rfl) ?_
        refine RL.nil ?_
        refine CW.ret ?_
        first | (refine outP2 Tryz.results33 (congrArg I ?_) (congrArg B ?_) hH13.below <;> rw [end_refY i0 ‹_› (show k = pts r by omega) ‹_› hg]) | (refine outP2 Tryz.results33 (congrArg I ?_) (congrArg B ?_) hH13.below <;> rw [end_refN ‹_› hg])
      · refine CW.skip ?_
        refine CW.region ?_
        refine RL.val rfl (run_move e6_10) ?_
        refine RL.val rfl (run_add rfl rfl (by omega)) ?_
        refine RL.val rfl (run_assign (v := I _) rfl) ?_
        refine RL.nil ?_
        refine ⟨i + 1, ?_, (((((((((((((((fr5.u rfl).u rfl).u rfl).u rfl).u rfl).u rfl).t fr10 rfl)).u rfl).u rfl).u rfl).u rfl).u rfl).u rfl).u rfl).u rfl, hH13, (congrArg I (by first | rfl | omega)), ?_, ?_, ?_⟩
        · ((try dsimp only); omega)
        · omega
        · omega
        · exact fun x a b => if e : x = i then e ▸ (by rw [← show k = pts r by omega]; assumption) else hg x a (by omega)
  · refine CW.exit (id := 0) rfl ?_
    refine CW.seq ?_
    refine CW.region ?_
    refine RL.val rfl (run_assign (v := I 0) rfl) ?_
    refine RL.val rfl (run_assign (v := B false) rfl) ?_
    refine RL.nil ?_
    refine CW.ret ?_
    first | (refine outP2 Tryz.results33 (congrArg I ?_) (congrArg B ?_) hH7.below <;> rw [end_refY i0 ‹_› (show k = pts r by omega) ‹_› hg]) | (refine outP2 Tryz.results33 (congrArg I ?_) (congrArg B ?_) hH7.below <;> rw [end_refN ‹_› hg])

theorem c_grid_Right (r : Rl) (w : World) : Calls Tryz.prog 50 #[.agg (relC r)] w (Pure (B (rightG r)) w) := by
  refine enter Tryz.func50 rfl Tryz.ntmps50 rfl ?_
  have hH := Hp.start w
  refine CW.seq ?_
  refine CW.region ?_
  refine RL.new rfl hH (f := fun b => (.pointer (some ⟨b, 0, none⟩))) (run_box (v := .agg _) rfl) ?_
  intro b3 w1 hH2
  refine RL.val rfl (run_assign (v := B false) rfl) ?_
  refine RL.nil ?_
  refine CW.seq ?_
  refine CW.region ?_
  refine RL.val rfl (run_fieldAddr Tryz.underlying42 rfl (off := 0) rfl Tryz.sizeOf3 (by decide) rfl) ?_
  refine RL.val rfl (run_ld Tryz.underlying3 rfl rfl (hH2.cell (i := 0) rfl (relC_N _))) ?_
  refine RL.val rfl (run_geq rfl rfl) ?_
  refine RL.val rfl (run_move (v := B _) rfl) ?_
  refine RL.splitP (dj := 6) rfl (fun h5 => ?_) (fun h5 => ?_)
  · refine RL.gT rfl (bT h5) ?_
    refine RL.val rfl (run_fieldAddr Tryz.underlying42 rfl (off := 0) rfl Tryz.sizeOf3 (by decide) rfl) ?_
    refine RL.gT rfl (bT h5) ?_
    refine RL.val rfl (run_ld Tryz.underlying3 rfl rfl (hH2.cell (i := 0) rfl (relC_N _))) ?_
    refine RL.gT rfl (bT h5) ?_
    refine RL.val rfl (run_leq rfl rfl) ?_
    refine RL.val rfl (run_pickT (bT h5) (v := B _) rfl) ?_
    refine RL.val rfl (run_move (v := B _) rfl) ?_
    refine RL.splitP (dj := 11) rfl (fun h7 => ?_) (fun h7 => ?_)
    · refine RL.gT rfl (bT h7) ?_
      refine RL.val rfl (run_ldRel Tryz.underlying42 rfl rfl rfl (hH2.blk (i := 0) rfl)) ?_
      refine RL.gT rfl (bT h7) ?_
      refine RL.callP rfl hH2 (c_relate_Closed _  _) (run_call1 Tryz.call84 rfl) ?_
      intro w8 hH9
      refine RL.val rfl (run_pickT (bT h7) (v := B _) rfl) ?_
      refine RL.val rfl (run_assign (v := B _) rfl) ?_
      refine RL.nil ?_
      refine CW.ret ?_
      refine outP1 Tryz.results50 (congrArg B ?_) hH9.below
      first | rw [rightG, decide_eq_false (show ¬ (1 ≤ r.n ∧ r.n ≤ 8) by omega), Bool.false_and] | rw [rightG, decide_eq_true (show 1 ≤ r.n ∧ r.n ≤ 8 by omega), Bool.true_and]
    · refine RL.gF rfl rfl (bF h7) rfl ?_
      refine RL.gF rfl rfl (bF h7) rfl ?_
      refine RL.val rfl (run_pickF (bF h7) (v := B false) rfl) ?_
      refine RL.val rfl (run_assign (v := B _) rfl) ?_
      refine RL.nil ?_
      refine CW.ret ?_
      refine outP1 Tryz.results50 (congrArg B ?_) hH2.below
      first | rw [rightG, decide_eq_false (show ¬ (1 ≤ r.n ∧ r.n ≤ 8) by omega), Bool.false_and] | rw [rightG, decide_eq_true (show 1 ≤ r.n ∧ r.n ≤ 8 by omega), Bool.true_and]
  · refine RL.gF rfl rfl (bF h5) rfl ?_
    refine RL.gF rfl rfl (bF h5) rfl ?_
    refine RL.gF rfl rfl (bF h5) rfl ?_
    refine RL.val rfl (run_pickF (bF h5) (v := B false) rfl) ?_
    refine RL.val rfl (run_move (v := B _) rfl) ?_
    refine RL.gF rfl rfl rfl rfl ?_
    refine RL.gF rfl rfl rfl rfl ?_
    refine RL.val rfl (run_pickF rfl (v := B false) rfl) ?_
    refine RL.val rfl (run_assign (v := B _) rfl) ?_
    refine RL.nil ?_
    refine CW.ret ?_
    refine outP1 Tryz.results50 (congrArg B ?_) hH2.below
    first | rw [rightG, decide_eq_false (show ¬ (1 ≤ r.n ∧ r.n ≤ 8) by omega), Bool.false_and] | rw [rightG, decide_eq_true (show 1 ≤ r.n ∧ r.n ≤ 8 by omega), Bool.true_and]

theorem c_grid_row (r : Rl) (s : BitVec 64) (o : Int) (ho : 0 ≤ o ∧ o < 8) (w : World) : Calls Tryz.prog 128 #[.agg (relC r), U s, I o] w (Pure (U (growG r s o)) w) := by
  refine enter Tryz.func128 rfl Tryz.ntmps128 rfl ?_
  have hH := Hp.start w
  refine CW.seq ?_
  refine CW.region ?_
  refine RL.new rfl hH (f := fun b => (.pointer (some ⟨b, 0, none⟩))) (run_box (v := .agg _) rfl) ?_
  intro b3 w1 hH2
  refine RL.val rfl (run_assign (v := U 0#64) rfl) ?_
  refine RL.nil ?_
  refine CW.seq ?_
  refine CW.region ?_
  refine RL.val rfl (run_move (v := U _) rfl) ?_
  refine RL.val rfl (run_move (v := I _) rfl) ?_
  refine RL.val rfl (run_mul rfl rfl (by omega)) ?_
  refine RL.val rfl (run_convIU Tryz.underlying3 Tryz.underlying88 rfl) ?_
  refine RL.val rfl (run_shrU rfl rfl) ?_
  refine RL.val rfl (run_fieldAddr Tryz.underlying42 rfl (off := 0) rfl Tryz.sizeOf3 (by decide) rfl) ?_
  refine RL.val rfl (run_ld Tryz.underlying3 rfl rfl (hH2.cell (i := 0) rfl (relC_N _))) ?_
  refine RL.callP rfl hH2 (c_mask_Below _  _) (run_call1 Tryz.call64 rfl) ?_
  intro w4 hH5
  refine RL.val rfl (run_andU rfl rfl) ?_
  refine RL.val rfl (run_assign (v := U _) rfl) ?_
  refine RL.nil ?_
  refine CW.ret ?_
  refine outP1 Tryz.results128 (congrArg U ?_) hH5.below
  rfl

theorem c_grid_rows (r : Rl) (f : FuncId) (cs : List Value) (ff : Int → BitVec 64) (hn : 1 ≤ r.n ∧ r.n ≤ 8) (w : World) (hf : ∀ args w, (callFunc f args).run Tryz.prog w = .ok (.enter f args) w) (go : ∀ i w', Below w.heap.size w w' → 0 ≤ i → i < r.n → Calls Tryz.prog f (I i :: cs).toArray w' (Pure (U (ff i)) w')) : Calls Tryz.prog 97 #[.agg (relC r), .func (.func f) #[] cs.toArray] w (Pure (U (rowsG ff r.n)) w) := by
  refine enter Tryz.func97 rfl Tryz.ntmps97 rfl ?_
  have hH := Hp.start w
  refine CW.seq ?_
  refine CW.region ?_
  refine RL.new rfl hH (f := fun b => (.pointer (some ⟨b, 0, none⟩))) (run_box (v := .agg _) rfl) ?_
  intro b3 w1 hH2
  refine RL.val rfl (run_assign (v := U 0#64) rfl) ?_
  refine RL.nil ?_
  refine CW.seq ?_
  refine CW.region ?_
  refine RL.val rfl (run_assign (v := U 0#64) rfl) ?_
  refine RL.nil ?_
  refine CW.seq ?_
  refine CW.seq ?_
  refine CW.region ?_
  refine RL.val rfl (run_fieldAddr Tryz.underlying42 rfl (off := 0) rfl Tryz.sizeOf3 (by decide) rfl) ?_
  refine RL.val rfl (run_ld Tryz.underlying3 rfl rfl (hH2.cell (i := 0) rfl (relC_N _))) ?_
  refine RL.val rfl (run_move (v := I 0) rfl) ?_
  refine RL.nil ?_
  refine CW.block ?_
  refine CW.loop (G := (Int)) (fun (k : Int) s' w' => (Fr [5, 6, 9, 10, 11, 12, 13, 14, 15, 16, 17, 18, 19, 20, 21] _ s') ∧ (Hp w w' _) ∧ (s' 5 = U (rowsG ff k)) ∧ (s' 9 = I k) ∧ (0 ≤ k) ∧ (k ≤ r.n)) (fun (k : Int) => (r.n - k).toNat) (0) ⟨Fr.refl _ _, hH2, rfl, rfl, (by omega), (by omega)⟩ ?_
  rintro k sg4 w4 ⟨fr4, hH4, e5_4, e9_4, h0, hk⟩
  have e1_4 : sg4 1 = .func _ _ _ := (fr4 1 rfl).trans rfl
  have e4_4 : sg4 4 = U _ := (fr4 4 rfl).trans rfl
  have e8_4 : sg4 8 = I _ := (fr4 8 rfl).trans rfl
  refine CW.seq ?_
  refine CW.region ?_
  refine RL.val rfl (run_lss e9_4 e8_4) ?_
  refine RL.nil ?_
  refine CW.seq ?_
  refine CW.condP rfl (fun h6 => ?_) (fun h6 => ?_)
  · refine CW.skip ?_
    refine CW.seq ?_
    refine CW.block ?_
    refine CW.seq ?_
    refine CW.region ?_
    refine RL.val rfl (run_move e9_4) ?_
    refine RL.val rfl (run_assign (v := I _) rfl) ?_
    refine RL.nil ?_
    refine CW.region ?_
    refine RL.val rfl (run_move e5_4) ?_
    refine RL.val rfl (run_move e1_4) ?_
    refine RL.val rfl (run_move (v := I _) rfl) ?_
    refine RL.callP rfl hH4 (go _ _ hH4.below (by omega) (by omega)) (run_callC1 hf (cs := cs) rfl rfl) ?_
    intro w7 hH8
    refine RL.val rfl (run_move (v := I _) rfl) ?_
    refine RL.val rfl (run_mul rfl rfl (by omega)) ?_
    refine RL.val rfl (run_convIU Tryz.underlying3 Tryz.underlying88 rfl) ?_
    refine RL.val rfl (run_shlU rfl rfl) ?_
    refine RL.val rfl (run_orU rfl rfl) ?_
    refine RL.val rfl (run_assign (v := U _) rfl) ?_
    refine RL.nil ?_
    refine CW.region ?_
    refine RL.val rfl (run_add e9_4 rfl (by omega)) ?_
    refine RL.val rfl (run_move (v := I _) rfl) ?_
    refine RL.nil ?_
    refine ⟨k + 1, ?_, ((((((((((((((fr4.u rfl).u rfl).u rfl).u rfl).u rfl).u rfl).u rfl).u rfl).u rfl).u rfl).u rfl).u rfl).u rfl).u rfl).u rfl, hH8, (congrArg U (rows_next h0)), (congrArg I (by first | rfl | omega)), ?_, ?_⟩
    · ((try dsimp only); omega)
    · omega
    · omega
  · refine CW.exit (id := 0) rfl ?_
    refine CW.seq ?_
    refine CW.region ?_
    refine RL.val rfl (run_move e5_4) ?_
    refine RL.val rfl (run_assign (v := U _) rfl) ?_
    refine RL.nil ?_
    refine CW.ret ?_
    refine outP1 Tryz.results97 (congrArg U ?_) hH4.below
    (rw [show k = r.n by omega])

theorem c_grid_Close_1 (b c : Nat) (r : Rl) (s : BitVec 64) (o : Int) (hr : rightG r = true) (w : World) (hb : w.heap[b]? = some (.cells (relC r) 42 (0, 0))) (hc : w.heap[c]? = some (.cells #[U s] 28 (0, 0))) (hT : Tab w) : Calls Tryz.prog 127 #[I o, .pointer (some ⟨b, 0, none⟩), .pointer (some ⟨c, 0, none⟩)] w (Pure (U (closeF r s o)) w) := by
  have hl := lst_len (upR r (ofl [o]))
  refine enter Tryz.func127 rfl Tryz.ntmps127 rfl ?_
  have hH := Hp.start w
  refine CW.seq ?_
  refine CW.region ?_
  refine RL.val rfl (run_assign (v := U 0#64) rfl) ?_
  refine RL.nil ?_
  refine CW.seq ?_
  refine CW.region ?_
  refine RL.val rfl (run_assign (v := U 0#64) rfl) ?_
  refine RL.nil ?_
  refine CW.seq ?_
  refine CW.seq ?_
  refine CW.regionD (by kernel_rfl) hH ?_
  intro w1 hH2
  refine AN.take 0 rfl rfl (by kernel_rfl) (by kernel_rfl) (by kernel_rfl) (hH2.sub (List.Sublist.refl _)) (fun w hS => run_ldRel Tryz.underlying42 rfl rfl rfl (hS.ext hb)) ?_
  refine AN.take 1 rfl rfl (by kernel_rfl) (by kernel_rfl) (by kernel_rfl) (hH2.sub (List.Sublist.refl _)) (fun w hS => run_move (v := I _) rfl) ?_
  refine AN.take 7 rfl rfl (by kernel_rfl) (by kernel_rfl) (by kernel_rfl) (hH2.sub (List.Sublist.refl _)) (fun w hS => run_move (v := I 0) rfl) ?_
  refine AN.one 2 (by kernel_rfl) ?_
  refine AO.new rfl gnone rfl hH2 (List.Sublist.refl _) (f := fun b => .slice (some ⟨b, 0, none⟩) 1 1) (run_mkL Tryz.underlying72 rfl rfl (sz := 1) (vs := [I _]) rfl rfl (by decide) (by decide) rfl rfl) ?_
  intro b5 w3 hH4
  (try simp only [List.flatMap_cons, List.flatMap_nil, clI, clB, clS, clP, clL, clA, List.append_nil, List.cons_append, List.nil_append] at hH4)
  have hH6 := hH4.blkRow 1 1 rfl (by decide)
  refine AN.one 3 (by kernel_rfl) ?_
  refine AO.callP rfl gnone rfl hH6 (.cons _ (List.Sublist.refl _)) (c_mask_Of _ [o] _ (hH6.sl (i := 0) rfl)) (run_call1 Tryz.call117 rfl) ?_
  intro w7 hH8
  refine AN.one 4 (by kernel_rfl) ?_
  refine AO.callP rfl gnone rfl hH8 (.cons _ (List.Sublist.refl _)) (c_relate_Up _ _  _ (hT.hp hH8)) (run_call2 Tryz.call118 rfl rfl) ?_
  intro w9 hH10
  refine AN.one 5 (by kernel_rfl) ?_
  refine AO.callR rfl gnone rfl hH10 (.cons _ (List.Sublist.refl _)) (c_mask_List _  _ (hT.hp hH10)) (run_call1 Tryz.call101 rfl) ?_
  intro v13 w11 hH12
  refine AN.one 6 (by kernel_rfl) ?_
  refine AO.read rfl gnone rfl hH12 (.cons _ (.cons _ (List.Sublist.refl _))) (run_lenSl (hH12.sl (i := 0) rfl) rfl Tryz.underlying72 rfl) ?_
  refine AN.done (by kernel_rfl) ?_
  refine CW.block ?_
  refine CW.loop (G := (Int)) (fun (k : Int) s' w' => (Fr [5, 7, 15, 16, 17, 18, 19, 20, 21, 22, 23, 24, 25, 26, 27] _ s') ∧ (Hp w w' _) ∧ (s' 5 = U (orAll (fun p => downR r (growG r s p)) ((lst (upR r (ofl [o]))).take k.toNat))) ∧ (s' 15 = I k) ∧ (0 ≤ k) ∧ (k ≤ (lst (upR r (ofl [o]))).length)) (fun (k : Int) => ((lst (upR r (ofl [o]))).length - k).toNat) (0) ⟨Fr.refl _ _, hH12, (congrArg U (by simp [orAll])), rfl, (by omega), (by omega)⟩ ?_
  rintro k sg16 w16 ⟨fr16, hH16, e5_16, e15_16, h0, hk⟩
  have e1_16 := (fr16 1 rfl).trans (by conv => lhs; whnf)
  have e2_16 := (fr16 2 rfl).trans (by conv => lhs; whnf)
  have e4_16 : sg16 4 = U _ := (fr16 4 rfl).trans rfl
  have e13_16 := (fr16 13 rfl).trans (by conv => lhs; whnf)
  have e14_16 : sg16 14 = I _ := (fr16 14 rfl).trans rfl
  refine CW.seq ?_
  refine CW.region ?_
  refine RL.val rfl (run_lss e15_16 e14_16) ?_
  refine RL.nil ?_
  refine CW.seq ?_
  refine CW.condP rfl (fun h18 => ?_) (fun h18 => ?_)
  · refine CW.skip ?_
    refine CW.seq ?_
    refine CW.block ?_
    refine CW.seq ?_
    refine CW.region ?_
    refine RL.val rfl (run_indexAddrS (hH16.sl (i := 0) rfl) Tryz.underlying72 Tryz.sizeOf3 e13_16 e15_16 (by omega)) ?_
    refine RL.val rfl (run_ld Tryz.underlying3 rfl rfl ((hH16.sl (i := 0) rfl).cell _ _ (map_at (by omega)))) ?_
    refine RL.val rfl (run_assign (v := I _) rfl) ?_
    refine RL.nil ?_
    refine CW.regionD (by kernel_rfl) hH16 ?_
    intro w19 hH20
    refine AN.take 0 rfl rfl (by kernel_rfl) (by kernel_rfl) (by kernel_rfl) (hH20.sub (List.Sublist.refl _)) (fun w hS => run_move e5_16) ?_
    refine AN.take 1 rfl rfl (by kernel_rfl) (by kernel_rfl) (by kernel_rfl) (hH20.sub (List.Sublist.refl _)) (fun w hS => run_ldRel Tryz.underlying42 rfl rfl e1_16 (hS.ext hb)) ?_
    refine AN.take 2 rfl rfl (by kernel_rfl) (by kernel_rfl) (by kernel_rfl) (hH20.sub (List.Sublist.refl _)) (fun w hS => run_ldRel Tryz.underlying42 rfl rfl e1_16 (hS.ext hb)) ?_
    refine AN.take 3 rfl rfl (by kernel_rfl) (by kernel_rfl) (by kernel_rfl) (hH20.sub (List.Sublist.refl _)) (fun w hS => run_ld Tryz.underlying28 rfl e2_16 (hS.extCell hc (v := U _) rfl)) ?_
    refine AN.take 4 rfl rfl (by kernel_rfl) (by kernel_rfl) (by kernel_rfl) (hH20.sub (List.Sublist.refl _)) (fun w hS => run_move (v := I _) rfl) ?_
    refine AN.one 5 (by kernel_rfl) ?_
    refine AO.callP rfl gnone rfl hH20 (List.Sublist.refl _) (c_grid_row _ _ _ (above_lt hr (lst_at h0 ‹_›)) _) (run_call3 Tryz.call128 rfl rfl rfl) ?_
    intro w21 hH22
    refine AN.one 6 (by kernel_rfl) ?_
    refine AO.callP rfl gnone rfl hH22 (List.Sublist.refl _) (c_relate_Down _ _  _) (run_call2 Tryz.call120 rfl rfl) ?_
    intro w23 hH24
    refine AN.take 7 rfl rfl (by kernel_rfl) (by kernel_rfl) (by kernel_rfl) (hH24.sub (List.Sublist.refl _)) (fun w hS => run_orU rfl rfl) ?_
    refine AN.take 8 rfl rfl (by kernel_rfl) (by kernel_rfl) (by kernel_rfl) (hH24.sub (List.Sublist.refl _)) (fun w hS => run_assign (v := U _) rfl) ?_
    refine AN.done (by kernel_rfl) ?_
    refine CW.region ?_
    refine RL.val rfl (run_add e15_16 rfl (by omega)) ?_
    refine RL.val rfl (run_move (v := I _) rfl) ?_
    refine RL.nil ?_
    refine ⟨k + 1, ?_, ((((((((((((((fr16.u rfl).u rfl).u rfl).u rfl).u rfl).u rfl).u rfl).u rfl).u rfl).u rfl).u rfl).u rfl).u rfl).u rfl).u rfl, hH24, (congrArg U (orAll_next (f := fun p => downR r (growG r s p)) h0 ‹_›)), (congrArg I (by first | rfl | omega)), ?_, ?_⟩
    · ((try dsimp only); omega)
    · omega
    · omega
  · refine CW.exit (id := 0) rfl ?_
    refine CW.seq ?_
    refine CW.region ?_
    refine RL.val rfl (run_move e5_16) ?_
    refine RL.val rfl (run_assign (v := U _) rfl) ?_
    refine RL.nil ?_
    refine CW.ret ?_
    refine outP1 Tryz.results127 (congrArg U ?_) hH16.below
    (rw [take_all ‹_›]; rfl)

theorem c_grid_Close (r : Rl) (s : BitVec 64) (w : World) (hT : Tab w) : Calls Tryz.prog 105 #[.agg (relC r), U s] w (Pure (U (closeG r s)) w) := by
  refine enter Tryz.func105 rfl Tryz.ntmps105 rfl ?_
  have hH := Hp.start w
  refine CW.seq ?_
  refine CW.region ?_
  refine RL.new rfl hH (f := fun b => (.pointer (some ⟨b, 0, none⟩))) (run_box (v := .agg _) rfl) ?_
  intro b3 w1 hH2
  refine RL.new rfl hH2 (f := fun b => (.pointer (some ⟨b, 0, none⟩))) (run_box (v := U _) rfl) ?_
  intro b6 w4 hH5
  refine RL.val rfl (run_assign (v := U 0#64) rfl) ?_
  refine RL.nil ?_
  refine CW.seq ?_
  refine CW.seq ?_
  refine CW.region ?_
  refine RL.val rfl (run_ldRel Tryz.underlying42 rfl rfl rfl (hH5.blk (i := 1) rfl)) ?_
  refine RL.callP rfl hH5 (c_grid_Right _  _) (run_call1 Tryz.call50 rfl) ?_
  intro w7 hH8
  refine RL.val rfl (run_not rfl) ?_
  refine RL.nil ?_
  refine CW.cond rfl (fun h11 => ?_) (fun h11 => ?_)
  · refine CW.seq ?_
    refine CW.region ?_
    refine RL.val rfl (run_assign (v := U 0#64) rfl) ?_
    refine RL.nil ?_
    refine CW.ret ?_
    refine outP1 Tryz.results105 (congrArg U ?_) hH8.below
    first | exact (close_no (nt ‹_›)).symm | exact close_yes (nf ‹_›)
  · refine CW.skip ?_
    refine CW.seq ?_
    refine CW.region ?_
    refine RL.val rfl (run_ldRel Tryz.underlying42 rfl rfl rfl (hH8.blk (i := 1) rfl)) ?_
    refine RL.val rfl (run_mkF2 (by conv => lhs; whnf) (by conv => lhs; whnf)) ?_
    refine RL.callP rfl hH8 (c_grid_rows r 127 [.pointer (some ⟨b3, 0, none⟩), .pointer (some ⟨b6, 0, none⟩)] (closeF r s) (right_spec (nf ‹(!rightG r) = false›)).1 _ Tryz.call127 (fun i w h _ _ => c_grid_Close_1 b3 b6 r s i (nf ‹(!rightG r) = false›) w (keep h (hH8.blk (i := 1) rfl)) (keep h (hH8.blk (i := 0) rfl)) ((hT.hp hH8).below h))) (run_call2 Tryz.call97 rfl rfl) ?_
    intro w12 hH13
    refine RL.val rfl (run_assign (v := U _) rfl) ?_
    refine RL.nil ?_
    refine CW.ret ?_
    refine outP1 Tryz.results105 (congrArg U ?_) hH13.below
    first | exact (close_no (nt ‹_›)).symm | exact close_yes (nf ‹_›)

theorem c_grid_Closed (r : Rl) (s : BitVec 64) (w : World) (hT : Tab w) : Calls Tryz.prog 72 #[.agg (relC r), U s] w (Pure (B (closedG r s)) w) := by
  refine enter Tryz.func72 rfl Tryz.ntmps72 rfl ?_
  have hH := Hp.start w
  refine CW.seq ?_
  refine CW.region ?_
  refine RL.new rfl hH (f := fun b => (.pointer (some ⟨b, 0, none⟩))) (run_box (v := .agg _) rfl) ?_
  intro b3 w1 hH2
  refine RL.val rfl (run_assign (v := B false) rfl) ?_
  refine RL.nil ?_
  refine CW.seq ?_
  refine CW.region ?_
  refine RL.val rfl (run_ldRel Tryz.underlying42 rfl rfl rfl (hH2.blk (i := 0) rfl)) ?_
  refine RL.callP rfl hH2 (c_grid_Right _  _) (run_call1 Tryz.call50 rfl) ?_
  intro w4 hH5
  refine RL.val rfl (run_move (v := B _) rfl) ?_
  refine RL.split (dj := 7) rfl (fun h7 => ?_) (fun h7 => ?_)
  · refine RL.gT rfl (bR (c := true) h7) ?_
    refine RL.val rfl (run_ldRel Tryz.underlying42 rfl rfl rfl (hH5.blk (i := 0) rfl)) ?_
    refine RL.gT rfl (bR (c := true) h7) ?_
    refine RL.val rfl (run_move (v := U _) rfl) ?_
    refine RL.gT rfl (bR (c := true) h7) ?_
    refine RL.callP rfl hH5 (c_grid_Close _ _  _ (hT.hp hH5)) (run_call2 Tryz.call105 rfl rfl) ?_
    intro w8 hH9
    refine RL.gT rfl (bR (c := true) h7) ?_
    refine RL.val rfl (run_move (v := U _) rfl) ?_
    refine RL.gT rfl (bR (c := true) h7) ?_
    refine RL.val rfl (run_eqlU rfl rfl) ?_
    refine RL.val rfl (run_pickT (bR (c := true) h7) (v := B _) rfl) ?_
    refine RL.val rfl (run_assign (v := B _) rfl) ?_
    refine RL.nil ?_
    refine CW.ret ?_
    refine outP1 Tryz.results72 (congrArg B ?_) hH9.below
    first | (rw [closedG, ‹rightG r = false›]; rfl) | (rw [closedG, ‹rightG r = true›]; rfl)
  · refine RL.gF rfl rfl (bR (c := false) h7) rfl ?_
    refine RL.gF rfl rfl (bR (c := false) h7) rfl ?_
    refine RL.gF rfl rfl (bR (c := false) h7) rfl ?_
    refine RL.gF rfl rfl (bR (c := false) h7) rfl ?_
    refine RL.gF rfl rfl (bR (c := false) h7) rfl ?_
    refine RL.val rfl (run_pickF (bR (c := false) h7) (v := B false) rfl) ?_
    refine RL.val rfl (run_assign (v := B _) rfl) ?_
    refine RL.nil ?_
    refine CW.ret ?_
    refine outP1 Tryz.results72 (congrArg B ?_) hH5.below
    first | (rw [closedG, ‹rightG r = false›]; rfl) | (rw [closedG, ‹rightG r = true›]; rfl)

theorem c_grid_Top_1 (b : Nat) (r : Rl) (i : Int) (w : World) (hb : w.heap[b]? = some (.cells (relC r) 42 (0, 0))) : Calls Tryz.prog 98 #[I i, .pointer (some ⟨b, 0, none⟩)] w (Pure (U (below r.n)) w) := by
  refine enter Tryz.func98 rfl Tryz.ntmps98 rfl ?_
  have hH := Hp.start w
  refine CW.seq ?_
  refine CW.region ?_
  refine RL.val rfl (run_assign (v := U 0#64) rfl) ?_
  refine RL.nil ?_
  refine CW.seq ?_
  refine CW.region ?_
  refine RL.val rfl (run_fieldAddr Tryz.underlying42 rfl (off := 0) rfl Tryz.sizeOf3 (by decide) rfl) ?_
  refine RL.val rfl (run_ld Tryz.underlying3 rfl rfl (hH.extCell hb (relC_N _))) ?_
  refine RL.callP rfl hH (c_mask_Below _  _) (run_call1 Tryz.call64 rfl) ?_
  intro w1 hH2
  refine RL.val rfl (run_assign (v := U _) rfl) ?_
  refine RL.nil ?_
  refine CW.ret ?_
  refine outP1 Tryz.results98 (congrArg U ?_) hH2.below
  rfl

theorem c_grid_Top (r : Rl) (w : World) : Calls Tryz.prog 65 #[.agg (relC r)] w (Pure (U (topG r)) w) := by
  refine enter Tryz.func65 rfl Tryz.ntmps65 rfl ?_
  have hH := Hp.start w
  refine CW.seq ?_
  refine CW.region ?_
  refine RL.new rfl hH (f := fun b => (.pointer (some ⟨b, 0, none⟩))) (run_box (v := .agg _) rfl) ?_
  intro b3 w1 hH2
  refine RL.val rfl (run_assign (v := U 0#64) rfl) ?_
  refine RL.nil ?_
  refine CW.seq ?_
  refine CW.seq ?_
  refine CW.region ?_
  refine RL.val rfl (run_ldRel Tryz.underlying42 rfl rfl rfl (hH2.blk (i := 0) rfl)) ?_
  refine RL.callP rfl hH2 (c_grid_Right _  _) (run_call1 Tryz.call50 rfl) ?_
  intro w4 hH5
  refine RL.val rfl (run_not rfl) ?_
  refine RL.nil ?_
  refine CW.cond rfl (fun h8 => ?_) (fun h8 => ?_)
  · refine CW.seq ?_
    refine CW.region ?_
    refine RL.val rfl (run_assign (v := U 0#64) rfl) ?_
    refine RL.nil ?_
    refine CW.ret ?_
    refine outP1 Tryz.results65 (congrArg U ?_) hH5.below
    first | exact (top_no (nt ‹_›)).symm | exact top_yes (nf ‹_›)
  · refine CW.skip ?_
    refine CW.seq ?_
    refine CW.region ?_
    refine RL.val rfl (run_ldRel Tryz.underlying42 rfl rfl rfl (hH5.blk (i := 0) rfl)) ?_
    refine RL.val rfl (run_mkF1 (by conv => lhs; whnf)) ?_
    refine RL.callP rfl hH5 (c_grid_rows r 98 [.pointer (some ⟨b3, 0, none⟩)] (fun _ => below r.n) (right_spec (nf ‹(!rightG r) = false›)).1 _ Tryz.call98 (fun i w h _ _ => c_grid_Top_1 b3 r i w (keep h (hH5.blk (i := 0) rfl)))) (run_call2 Tryz.call97 rfl rfl) ?_
    intro w9 hH10
    refine RL.val rfl (run_assign (v := U _) rfl) ?_
    refine RL.nil ?_
    refine CW.ret ?_
    refine outP1 Tryz.results65 (congrArg U ?_) hH10.below
    first | exact (top_no (nt ‹_›)).symm | exact top_yes (nf ‹_›)

theorem c_grid_Height (r : Rl) (w : World) (hT : Tab w) : Calls Tryz.prog 67 #[.agg (relC r)] w (Pure (I (heightG r)) w) := by
  refine enter Tryz.func67 rfl Tryz.ntmps67 rfl ?_
  have hH := Hp.start w
  refine CW.seq ?_
  refine CW.region ?_
  refine RL.new rfl hH (f := fun b => (.pointer (some ⟨b, 0, none⟩))) (run_box (v := .agg _) rfl) ?_
  intro b3 w1 hH2
  refine RL.val rfl (run_assign (v := I 0) rfl) ?_
  refine RL.nil ?_
  refine CW.seq ?_
  refine CW.seq ?_
  refine CW.region ?_
  refine RL.val rfl (run_ldRel Tryz.underlying42 rfl rfl rfl (hH2.blk (i := 0) rfl)) ?_
  refine RL.callP rfl hH2 (c_grid_Right _  _) (run_call1 Tryz.call50 rfl) ?_
  intro w4 hH5
  refine RL.val rfl (run_not rfl) ?_
  refine RL.nil ?_
  refine CW.cond rfl (fun h8 => ?_) (fun h8 => ?_)
  · refine CW.seq ?_
    refine CW.region ?_
    refine RL.val rfl (run_assign (v := I 0) rfl) ?_
    refine RL.nil ?_
    refine CW.ret ?_
    refine outP1 Tryz.results67 (congrArg I ?_) hH5.below
    first | exact (height_no (nt ‹_›)).symm | exact height_yes (nf ‹_›)
  · refine CW.skip ?_
    refine CW.seq ?_
    refine CW.region ?_
    refine RL.val rfl (run_ldRel Tryz.underlying42 rfl rfl rfl (hH5.blk (i := 0) rfl)) ?_
    refine RL.callP rfl hH5 (c_relate_Classes _  _ (hT.hp hH5)) (run_call1 Tryz.call99 rfl) ?_
    intro w9 hH10
    refine RL.val rfl (run_assign (v := I _) rfl) ?_
    refine RL.nil ?_
    refine CW.seq ?_
    refine CW.region ?_
    refine RL.val rfl (run_move (v := I _) rfl) ?_
    refine RL.val rfl (run_move (v := I _) rfl) ?_
    refine RL.val rfl (run_mul rfl rfl (by exact cls_sq (nf ‹_›))) ?_
    refine RL.val rfl (run_assign (v := I _) rfl) ?_
    refine RL.nil ?_
    refine CW.ret ?_
    refine outP1 Tryz.results67 (congrArg I ?_) hH10.below
    first | exact (height_no (nt ‹_›)).symm | exact height_yes (nf ‹_›)

theorem c_clearanceref05_Right (r : Rl) (w : World) : Calls Tryz.prog 55 #[.agg (relC r)] w (Pure (B (rightG r)) w) := by
  refine enter Tryz.func55 rfl Tryz.ntmps55 rfl ?_
  have hH := Hp.start w
  refine CW.seq ?_
  refine CW.region ?_
  refine RL.new rfl hH (f := fun b => (.pointer (some ⟨b, 0, none⟩))) (run_box (v := .agg _) rfl) ?_
  intro b3 w1 hH2
  refine RL.val rfl (run_assign (v := B false) rfl) ?_
  refine RL.nil ?_
  refine CW.seq ?_
  refine CW.region ?_
  refine RL.val rfl (run_fieldAddr Tryz.underlying42 rfl (off := 0) rfl Tryz.sizeOf3 (by decide) rfl) ?_
  refine RL.val rfl (run_ld Tryz.underlying3 rfl rfl (hH2.cell (i := 0) rfl (relC_N _))) ?_
  refine RL.val rfl (run_geq rfl rfl) ?_
  refine RL.val rfl (run_move (v := B _) rfl) ?_
  refine RL.splitP (dj := 6) rfl (fun h5 => ?_) (fun h5 => ?_)
  · refine RL.gT rfl (bT h5) ?_
    refine RL.val rfl (run_fieldAddr Tryz.underlying42 rfl (off := 0) rfl Tryz.sizeOf3 (by decide) rfl) ?_
    refine RL.gT rfl (bT h5) ?_
    refine RL.val rfl (run_ld Tryz.underlying3 rfl rfl (hH2.cell (i := 0) rfl (relC_N _))) ?_
    refine RL.gT rfl (bT h5) ?_
    refine RL.val rfl (run_leq rfl rfl) ?_
    refine RL.val rfl (run_pickT (bT h5) (v := B _) rfl) ?_
    refine RL.val rfl (run_move (v := B _) rfl) ?_
    refine RL.splitP (dj := 11) rfl (fun h7 => ?_) (fun h7 => ?_)
    · refine RL.gT rfl (bT h7) ?_
      refine RL.val rfl (run_ldRel Tryz.underlying42 rfl rfl rfl (hH2.blk (i := 0) rfl)) ?_
      refine RL.gT rfl (bT h7) ?_
      refine RL.callP rfl hH2 (c_clearanceref03_Closed _  _) (run_call1 Tryz.call89 rfl) ?_
      intro w8 hH9
      refine RL.val rfl (run_pickT (bT h7) (v := B _) rfl) ?_
      refine RL.val rfl (run_assign (v := B _) rfl) ?_
      refine RL.nil ?_
      refine CW.ret ?_
      refine outP1 Tryz.results55 (congrArg B ?_) hH9.below
      first | rw [rightG, decide_eq_false (show ¬ (1 ≤ r.n ∧ r.n ≤ 8) by omega), Bool.false_and] | rw [rightG, decide_eq_true (show 1 ≤ r.n ∧ r.n ≤ 8 by omega), Bool.true_and]
    · refine RL.gF rfl rfl (bF h7) rfl ?_
      refine RL.gF rfl rfl (bF h7) rfl ?_
      refine RL.val rfl (run_pickF (bF h7) (v := B false) rfl) ?_
      refine RL.val rfl (run_assign (v := B _) rfl) ?_
      refine RL.nil ?_
      refine CW.ret ?_
      refine outP1 Tryz.results55 (congrArg B ?_) hH2.below
      first | rw [rightG, decide_eq_false (show ¬ (1 ≤ r.n ∧ r.n ≤ 8) by omega), Bool.false_and] | rw [rightG, decide_eq_true (show 1 ≤ r.n ∧ r.n ≤ 8 by omega), Bool.true_and]
  · refine RL.gF rfl rfl (bF h5) rfl ?_
    refine RL.gF rfl rfl (bF h5) rfl ?_
    refine RL.gF rfl rfl (bF h5) rfl ?_
    refine RL.val rfl (run_pickF (bF h5) (v := B false) rfl) ?_
    refine RL.val rfl (run_move (v := B _) rfl) ?_
    refine RL.gF rfl rfl rfl rfl ?_
    refine RL.gF rfl rfl rfl rfl ?_
    refine RL.val rfl (run_pickF rfl (v := B false) rfl) ?_
    refine RL.val rfl (run_assign (v := B _) rfl) ?_
    refine RL.nil ?_
    refine CW.ret ?_
    refine outP1 Tryz.results55 (congrArg B ?_) hH2.below
    first | rw [rightG, decide_eq_false (show ¬ (1 ≤ r.n ∧ r.n ≤ 8) by omega), Bool.false_and] | rw [rightG, decide_eq_true (show 1 ≤ r.n ∧ r.n ≤ 8 by omega), Bool.true_and]

theorem c_clearanceref05_Out (r : Rl) (s : BitVec 64) (o x : Int) (hn : 1 ≤ r.n ∧ r.n ≤ 8) (w : World) : Calls Tryz.prog 129 #[.agg (relC r), U s, I o, I x] w (Pure (B (outG r s o x)) w) := by
  refine enter Tryz.func129 rfl Tryz.ntmps129 rfl ?_
  have hH := Hp.start w
  refine CW.seq ?_
  refine CW.region ?_
  refine RL.new rfl hH (f := fun b => (.pointer (some ⟨b, 0, none⟩))) (run_box (v := .agg _) rfl) ?_
  intro b3 w1 hH2
  refine RL.val rfl (run_assign (v := B false) rfl) ?_
  refine RL.nil ?_
  refine CW.seq ?_
  refine CW.region ?_
  refine RL.val rfl (run_move (v := I _) rfl) ?_
  refine RL.val rfl (run_geq rfl rfl) ?_
  refine RL.val rfl (run_move (v := B _) rfl) ?_
  refine RL.splitP (dj := 11) rfl (fun h5 => ?_) (fun h5 => ?_)
  · refine RL.gT rfl (bT h5) ?_
    refine RL.val rfl (run_move (v := I _) rfl) ?_
    refine RL.gT rfl (bT h5) ?_
    refine RL.val rfl (run_geq rfl rfl) ?_
    refine RL.val rfl (run_pickT (bT h5) (v := B _) rfl) ?_
    refine RL.val rfl (run_move (v := B _) rfl) ?_
    refine RL.splitP (dj := 15) rfl (fun h7 => ?_) (fun h7 => ?_)
    · refine RL.gT rfl (bT h7) ?_
      refine RL.val rfl (run_move (v := I _) rfl) ?_
      refine RL.gT rfl (bT h7) ?_
      refine RL.val rfl (run_fieldAddr Tryz.underlying42 rfl (off := 0) rfl Tryz.sizeOf3 (by decide) rfl) ?_
      refine RL.gT rfl (bT h7) ?_
      refine RL.val rfl (run_ld Tryz.underlying3 rfl rfl (hH2.cell (i := 0) rfl (relC_N _))) ?_
      refine RL.gT rfl (bT h7) ?_
      refine RL.val rfl (run_lss rfl rfl) ?_
      refine RL.val rfl (run_pickT (bT h7) (v := B _) rfl) ?_
      refine RL.val rfl (run_move (v := B _) rfl) ?_
      refine RL.splitP (dj := 21) rfl (fun h9 => ?_) (fun h9 => ?_)
      · refine RL.gT rfl (bT h9) ?_
        refine RL.val rfl (run_move (v := I _) rfl) ?_
        refine RL.gT rfl (bT h9) ?_
        refine RL.val rfl (run_fieldAddr Tryz.underlying42 rfl (off := 0) rfl Tryz.sizeOf3 (by decide) rfl) ?_
        refine RL.gT rfl (bT h9) ?_
        refine RL.val rfl (run_ld Tryz.underlying3 rfl rfl (hH2.cell (i := 0) rfl (relC_N _))) ?_
        refine RL.gT rfl (bT h9) ?_
        refine RL.val rfl (run_lss rfl rfl) ?_
        refine RL.val rfl (run_pickT (bT h9) (v := B _) rfl) ?_
        refine RL.val rfl (run_move (v := B _) rfl) ?_
        refine RL.splitP (dj := 27) rfl (fun h11 => ?_) (fun h11 => ?_)
        · refine RL.gT rfl (bT h11) ?_
          refine RL.val rfl (run_move (v := U _) rfl) ?_
          refine RL.gT rfl (bT h11) ?_
          refine RL.val rfl (run_move (v := I _) rfl) ?_
          refine RL.gT rfl (bT h11) ?_
          refine RL.val rfl (run_mul rfl rfl (by omega)) ?_
          refine RL.gT rfl (bT h11) ?_
          refine RL.val rfl (run_move (v := I _) rfl) ?_
          refine RL.gT rfl (bT h11) ?_
          refine RL.val rfl (run_add rfl rfl (by omega)) ?_
          refine RL.gT rfl (bT h11) ?_
          refine RL.callP rfl hH2 (c_clearanceref01_Has _ _  _) (run_call2 Tryz.call78 rfl rfl) ?_
          intro w12 hH13
          refine RL.val rfl (run_pickT (bT h11) (v := B _) rfl) ?_
          refine RL.val rfl (run_assign (v := B _) rfl) ?_
          refine RL.nil ?_
          refine CW.ret ?_
          refine outP1 Tryz.results129 (congrArg B ?_) hH13.below
          first | rw [outG, decide_eq_false (by omega), Bool.false_and] | rw [outG, decide_eq_true (by omega), Bool.true_and]
        · refine RL.gF rfl rfl (bF h11) rfl ?_
          refine RL.gF rfl rfl (bF h11) rfl ?_
          refine RL.gF rfl rfl (bF h11) rfl ?_
          refine RL.gF rfl rfl (bF h11) rfl ?_
          refine RL.gF rfl rfl (bF h11) rfl ?_
          refine RL.gF rfl rfl (bF h11) rfl ?_
          refine RL.val rfl (run_pickF (bF h11) (v := B false) rfl) ?_
          refine RL.val rfl (run_assign (v := B _) rfl) ?_
          refine RL.nil ?_
          refine CW.ret ?_
          refine outP1 Tryz.results129 (congrArg B ?_) hH2.below
          first | rw [outG, decide_eq_false (by omega), Bool.false_and] | rw [outG, decide_eq_true (by omega), Bool.true_and]
      · refine RL.gF rfl rfl (bF h9) rfl ?_
        refine RL.gF rfl rfl (bF h9) rfl ?_
        refine RL.gF rfl rfl (bF h9) rfl ?_
        refine RL.gF rfl rfl (bF h9) rfl ?_
        refine RL.val rfl (run_pickF (bF h9) (v := B false) rfl) ?_
        refine RL.val rfl (run_move (v := B _) rfl) ?_
        refine RL.gF rfl rfl rfl rfl ?_
        refine RL.gF rfl rfl rfl rfl ?_
        refine RL.gF rfl rfl rfl rfl ?_
        refine RL.gF rfl rfl rfl rfl ?_
        refine RL.gF rfl rfl rfl rfl ?_
        refine RL.gF rfl rfl rfl rfl ?_
        refine RL.val rfl (run_pickF rfl (v := B false) rfl) ?_
        refine RL.val rfl (run_assign (v := B _) rfl) ?_
        refine RL.nil ?_
        refine CW.ret ?_
        refine outP1 Tryz.results129 (congrArg B ?_) hH2.below
        first | rw [outG, decide_eq_false (by omega), Bool.false_and] | rw [outG, decide_eq_true (by omega), Bool.true_and]
    · refine RL.gF rfl rfl (bF h7) rfl ?_
      refine RL.gF rfl rfl (bF h7) rfl ?_
      refine RL.gF rfl rfl (bF h7) rfl ?_
      refine RL.gF rfl rfl (bF h7) rfl ?_
      refine RL.val rfl (run_pickF (bF h7) (v := B false) rfl) ?_
      refine RL.val rfl (run_move (v := B _) rfl) ?_
      refine RL.gF rfl rfl rfl rfl ?_
      refine RL.gF rfl rfl rfl rfl ?_
      refine RL.gF rfl rfl rfl rfl ?_
      refine RL.gF rfl rfl rfl rfl ?_
      refine RL.val rfl (run_pickF rfl (v := B false) rfl) ?_
      refine RL.val rfl (run_move (v := B _) rfl) ?_
      refine RL.gF rfl rfl rfl rfl ?_
      refine RL.gF rfl rfl rfl rfl ?_
      refine RL.gF rfl rfl rfl rfl ?_
      refine RL.gF rfl rfl rfl rfl ?_
      refine RL.gF rfl rfl rfl rfl ?_
      refine RL.gF rfl rfl rfl rfl ?_
      refine RL.val rfl (run_pickF rfl (v := B false) rfl) ?_
      refine RL.val rfl (run_assign (v := B _) rfl) ?_
      refine RL.nil ?_
      refine CW.ret ?_
      refine outP1 Tryz.results129 (congrArg B ?_) hH2.below
      first | rw [outG, decide_eq_false (by omega), Bool.false_and] | rw [outG, decide_eq_true (by omega), Bool.true_and]
  · refine RL.gF rfl rfl (bF h5) rfl ?_
    refine RL.gF rfl rfl (bF h5) rfl ?_
    refine RL.val rfl (run_pickF (bF h5) (v := B false) rfl) ?_
    refine RL.val rfl (run_move (v := B _) rfl) ?_
    refine RL.gF rfl rfl rfl rfl ?_
    refine RL.gF rfl rfl rfl rfl ?_
    refine RL.gF rfl rfl rfl rfl ?_
    refine RL.gF rfl rfl rfl rfl ?_
    refine RL.val rfl (run_pickF rfl (v := B false) rfl) ?_
    refine RL.val rfl (run_move (v := B _) rfl) ?_
    refine RL.gF rfl rfl rfl rfl ?_
    refine RL.gF rfl rfl rfl rfl ?_
    refine RL.gF rfl rfl rfl rfl ?_
    refine RL.gF rfl rfl rfl rfl ?_
    refine RL.val rfl (run_pickF rfl (v := B false) rfl) ?_
    refine RL.val rfl (run_move (v := B _) rfl) ?_
    refine RL.gF rfl rfl rfl rfl ?_
    refine RL.gF rfl rfl rfl rfl ?_
    refine RL.gF rfl rfl rfl rfl ?_
    refine RL.gF rfl rfl rfl rfl ?_
    refine RL.gF rfl rfl rfl rfl ?_
    refine RL.gF rfl rfl rfl rfl ?_
    refine RL.val rfl (run_pickF rfl (v := B false) rfl) ?_
    refine RL.val rfl (run_assign (v := B _) rfl) ?_
    refine RL.nil ?_
    refine CW.ret ?_
    refine outP1 Tryz.results129 (congrArg B ?_) hH2.below
    first | rw [outG, decide_eq_false (by omega), Bool.false_and] | rw [outG, decide_eq_true (by omega), Bool.true_and]

theorem c_clearanceref05_follows (r : Rl) (s : BitVec 64) (o x : Int) (hn : 1 ≤ r.n ∧ r.n ≤ 8) (w : World) : Calls Tryz.prog 108 #[.agg (relC r), U s, I o, I x] w (Pure (B (folB r s o x)) w) := by
  refine enter Tryz.func108 rfl Tryz.ntmps108 rfl ?_
  have hH := Hp.start w
  refine CW.seq ?_
  refine CW.region ?_
  refine RL.new rfl hH (f := fun b => (.pointer (some ⟨b, 0, none⟩))) (run_box (v := .agg _) rfl) ?_
  intro b3 w1 hH2
  refine RL.val rfl (run_assign (v := B false) rfl) ?_
  refine RL.nil ?_
  refine CW.seq ?_
  refine CW.seq ?_
  refine CW.region ?_
  refine RL.val rfl (run_assign (v := I 0) rfl) ?_
  refine RL.nil ?_
  refine CW.block ?_
  refine CW.loop (G := (Int)) (fun (p : Int) s' w' => (Fr [8, 9, 10, 11, 12, 13, 14, 15, 16, 17, 18, 19, 20, 21, 22, 23, 24, 25, 26, 27, 28, 29, 30, 31, 32, 33, 34, 35, 36, 37, 38, 39] _ s') ∧ (Hp w w' _) ∧ (s' 9 = I p) ∧ (0 ≤ p) ∧ (p ≤ r.n) ∧ (∀ q y : Int, 0 ≤ q → q < p → ¬ (outG r s q y = true ∧ hasR r o q = true ∧ hasR r x y = true))) (fun (p : Int) => (r.n - p).toNat) (0) ⟨Fr.refl _ _, hH2, rfl, (by omega), (by omega), fun q y a b => absurd b (by omega)⟩ ?_
  rintro p sg4 w4 ⟨fr4, hH4, e9_4, p0, p1, hf⟩
  have e1_4 : sg4 1 = U _ := (fr4 1 rfl).trans rfl
  have e2_4 : sg4 2 = I _ := (fr4 2 rfl).trans rfl
  have e3_4 : sg4 3 = I _ := (fr4 3 rfl).trans rfl
  have e4_4 : sg4 4 = .pointer (some ⟨_, _, none⟩) := (fr4 4 rfl).trans rfl
  refine CW.seq ?_
  refine CW.seq ?_
  refine CW.region ?_
  refine RL.val rfl (run_move e9_4) ?_
  refine RL.val rfl (run_fieldAddr Tryz.underlying42 rfl (off := 0) rfl Tryz.sizeOf3 (by decide) e4_4) ?_
  refine RL.val rfl (run_ld Tryz.underlying3 rfl rfl (hH4.cell (i := 0) rfl (relC_N _))) ?_
  refine RL.val rfl (run_lss rfl rfl) ?_
  refine RL.nil ?_
  refine CW.condP rfl (fun h6 => ?_) (fun h6 => ?_)
  · refine CW.skip ?_
    refine CW.seq ?_
    refine CW.block ?_
    refine CW.seq ?_
    refine CW.region ?_
    refine RL.val rfl (run_assign (v := I 0) rfl) ?_
    refine RL.nil ?_
    refine CW.block ?_
    refine CW.loop (G := (Int)) (fun (y : Int) s' w' => (Fr [8, 10, 17, 18, 19, 20, 21, 22, 23, 24, 25, 26, 27, 28, 29, 30, 31, 32, 33, 34, 35, 36, 37, 38, 39] _ s') ∧ (Hp w w' _) ∧ (s' 10 = I y) ∧ (0 ≤ y) ∧ (y ≤ r.n) ∧ (∀ z : Int, 0 ≤ z → z < y → ¬ (outG r s p z = true ∧ hasR r o p = true ∧ hasR r x z = true))) (fun (y : Int) => (r.n - y).toNat) (0) ⟨Fr.refl _ _, hH4, rfl, (by omega), (by omega), fun z a b => absurd b (by omega)⟩ ?_
    rintro y sg7 w7 ⟨fr7, hH7, e10_7, y0, y1, hg⟩
    have e1_7 := (fr7 1 rfl).trans e1_4
    have e2_7 := (fr7 2 rfl).trans e2_4
    have e3_7 := (fr7 3 rfl).trans e3_4
    have e4_7 := (fr7 4 rfl).trans e4_4
    have e9_7 := (fr7 9 rfl).trans e9_4
    have e11_7 : sg7 11 = I _ := (fr7 11 rfl).trans rfl
    have e12_7 : sg7 12 = .pointer (some ⟨_, _, none⟩) := (fr7 12 rfl).trans rfl
    have e13_7 : sg7 13 = I _ := (fr7 13 rfl).trans rfl
    have e14_7 : sg7 14 = B _ := (fr7 14 rfl).trans rfl
    refine CW.seq ?_
    refine CW.seq ?_
    refine CW.region ?_
    refine RL.val rfl (run_move e10_7) ?_
    refine RL.val rfl (run_fieldAddr Tryz.underlying42 rfl (off := 0) rfl Tryz.sizeOf3 (by decide) e4_7) ?_
    refine RL.val rfl (run_ld Tryz.underlying3 rfl rfl (hH7.cell (i := 0) rfl (relC_N _))) ?_
    refine RL.val rfl (run_lss rfl rfl) ?_
    refine RL.nil ?_
    refine CW.condP rfl (fun h9 => ?_) (fun h9 => ?_)
    · refine CW.skip ?_
      refine CW.seq ?_
      refine CW.block ?_
      refine CW.seq ?_
      refine CW.region ?_
      refine RL.val rfl (run_ldRel Tryz.underlying42 rfl rfl e4_7 (hH7.blk (i := 0) rfl)) ?_
      refine RL.val rfl (run_move e1_7) ?_
      refine RL.val rfl (run_move e9_7) ?_
      refine RL.val rfl (run_move e10_7) ?_
      refine RL.callP rfl hH7 (c_clearanceref05_Out _ _ _ _ (by first | assumption | omega) _) (run_call4 Tryz.call129 rfl rfl rfl rfl) ?_
      intro w10 hH11
      refine RL.val rfl (run_move (v := B _) rfl) ?_
      refine RL.split (dj := 28) rfl (fun h13 => ?_) (fun h13 => ?_)
      · refine RL.gT rfl (bR (c := true) h13) ?_
        refine RL.val rfl (run_ldRel Tryz.underlying42 rfl rfl e4_7 (hH11.blk (i := 0) rfl)) ?_
        refine RL.gT rfl (bR (c := true) h13) ?_
        refine RL.val rfl (run_move e2_7) ?_
        refine RL.gT rfl (bR (c := true) h13) ?_
        refine RL.val rfl (run_move e9_7) ?_
        refine RL.gT rfl (bR (c := true) h13) ?_
        refine RL.callP rfl hH11 (c_clearanceref03_Has _ _ _  _) (run_call3 Tryz.call61 rfl rfl rfl) ?_
        intro w14 hH15
        refine RL.val rfl (run_pickT (bR (c := true) h13) (v := B _) rfl) ?_
        refine RL.val rfl (run_move (v := B _) rfl) ?_
        refine RL.split (dj := 34) rfl (fun h17 => ?_) (fun h17 => ?_)
        · refine RL.gT rfl (bR (c := true) h17) ?_
          refine RL.val rfl (run_ldRel Tryz.underlying42 rfl rfl e4_7 (hH15.blk (i := 0) rfl)) ?_
          refine RL.gT rfl (bR (c := true) h17) ?_
          refine RL.val rfl (run_move e3_7) ?_
          refine RL.gT rfl (bR (c := true) h17) ?_
          refine RL.val rfl (run_move e10_7) ?_
          refine RL.gT rfl (bR (c := true) h17) ?_
          refine RL.callP rfl hH15 (c_clearanceref03_Has _ _ _  _) (run_call3 Tryz.call61 rfl rfl rfl) ?_
          intro w18 hH19
          refine RL.val rfl (run_pickT (bR (c := true) h17) (v := B _) rfl) ?_
          refine RL.nil ?_
          refine CW.cond rfl (fun h21 => ?_) (fun h21 => ?_)
          · refine CW.seq ?_
            refine CW.region ?_
            refine RL.val rfl (run_assign (v := B true) rfl) ?_
            refine RL.nil ?_
            refine CW.ret ?_
            refine outP1 Tryz.results108 (congrArg B ?_) hH19.below
            first | exact (fol_iff.2 ⟨p, y, ‹_›, ‹_›, ‹_›⟩).symm | exact (fol_none ‹_› hf).symm
          · refine CW.skip ?_
            refine CW.region ?_
            refine RL.val rfl (run_move e10_7) ?_
            refine RL.val rfl (run_add rfl rfl (by omega)) ?_
            refine RL.val rfl (run_assign (v := I _) rfl) ?_
            refine RL.nil ?_
            refine ⟨y + 1, ?_, (((((((((((((((((((((((fr7.u rfl).u rfl).u rfl).u rfl).u rfl).u rfl).u rfl).u rfl).u rfl).u rfl).u rfl).u rfl).u rfl).u rfl).u rfl).u rfl).u rfl).u rfl).u rfl).u rfl).u rfl).u rfl).u rfl).u rfl, hH19, (congrArg I (by first | rfl | omega)), ?_, ?_, ?_⟩
            · ((try dsimp only); omega)
            · omega
            · omega
            · exact fun z a b h => if e : z = y then (by subst e; simp_all) else hg z a (by omega) h
        · refine RL.gF rfl rfl (bR (c := false) h17) rfl ?_
          refine RL.gF rfl rfl (bR (c := false) h17) rfl ?_
          refine RL.gF rfl rfl (bR (c := false) h17) rfl ?_
          refine RL.gF rfl rfl (bR (c := false) h17) rfl ?_
          refine RL.val rfl (run_pickF (bR (c := false) h17) (v := B false) rfl) ?_
          refine RL.nil ?_
          refine CW.condF rfl ?_
          refine CW.skip ?_
          refine CW.region ?_
          refine RL.val rfl (run_move e10_7) ?_
          refine RL.val rfl (run_add rfl rfl (by omega)) ?_
          refine RL.val rfl (run_assign (v := I _) rfl) ?_
          refine RL.nil ?_
          refine ⟨y + 1, ?_, (((((((((((((((((((((((fr7.u rfl).u rfl).u rfl).u rfl).u rfl).u rfl).u rfl).u rfl).u rfl).u rfl).u rfl).u rfl).u rfl).u rfl).u rfl).u rfl).u rfl).u rfl).u rfl).u rfl).u rfl).u rfl).u rfl).u rfl, hH15, (congrArg I (by first | rfl | omega)), ?_, ?_, ?_⟩
          · ((try dsimp only); omega)
          · omega
          · omega
          · exact fun z a b h => if e : z = y then (by subst e; simp_all) else hg z a (by omega) h
      · refine RL.gF rfl rfl (bR (c := false) h13) rfl ?_
        refine RL.gF rfl rfl (bR (c := false) h13) rfl ?_
        refine RL.gF rfl rfl (bR (c := false) h13) rfl ?_
        refine RL.gF rfl rfl (bR (c := false) h13) rfl ?_
        refine RL.val rfl (run_pickF (bR (c := false) h13) (v := B false) rfl) ?_
        refine RL.val rfl (run_move (v := B _) rfl) ?_
        refine RL.gF rfl rfl rfl rfl ?_
        refine RL.gF rfl rfl rfl rfl ?_
        refine RL.gF rfl rfl rfl rfl ?_
        refine RL.gF rfl rfl rfl rfl ?_
        refine RL.val rfl (run_pickF rfl (v := B false) rfl) ?_
        refine RL.nil ?_
        refine CW.condF rfl ?_
        refine CW.skip ?_
        refine CW.region ?_
        refine RL.val rfl (run_move e10_7) ?_
        refine RL.val rfl (run_add rfl rfl (by omega)) ?_
        refine RL.val rfl (run_assign (v := I _) rfl) ?_
        refine RL.nil ?_
        refine ⟨y + 1, ?_, (((((((((((((((((((((((fr7.u rfl).u rfl).u rfl).u rfl).u rfl).u rfl).u rfl).u rfl).u rfl).u rfl).u rfl).u rfl).u rfl).u rfl).u rfl).u rfl).u rfl).u rfl).u rfl).u rfl).u rfl).u rfl).u rfl).u rfl, hH11, (congrArg I (by first | rfl | omega)), ?_, ?_, ?_⟩
        · ((try dsimp only); omega)
        · omega
        · omega
        · exact fun z a b h => if e : z = y then (by subst e; simp_all) else hg z a (by omega) h
    · refine CW.exit (id := 2) rfl ?_
      refine CW.region ?_
      refine RL.val rfl (run_move e9_7) ?_
      refine RL.val rfl (run_add rfl rfl (by omega)) ?_
      refine RL.val rfl (run_assign (v := I _) rfl) ?_
      refine RL.nil ?_
      refine ⟨p + 1, ?_, (((((((((((((fr4.u rfl).u rfl).u rfl).u rfl).u rfl).t fr7 rfl)).u rfl).u rfl).u rfl).u rfl).u rfl).u rfl).u rfl, hH7, (congrArg I (by first | rfl | omega)), ?_, ?_, ?_⟩
      · ((try dsimp only); omega)
      · omega
      · omega
      · exact fun q y a b h => if e : q = p then hg y (out_iff.1 h.1).1.2.1 (by have := (out_iff.1 h.1).1; omega) (e ▸ h) else hf q y a (by omega) h
  · refine CW.exit (id := 0) rfl ?_
    refine CW.seq ?_
    refine CW.region ?_
    refine RL.val rfl (run_assign (v := B false) rfl) ?_
    refine RL.nil ?_
    refine CW.ret ?_
    refine outP1 Tryz.results108 (congrArg B ?_) hH4.below
    first | exact (fol_iff.2 ⟨p, y, ‹_›, ‹_›, ‹_›⟩).symm | exact (fol_none ‹_› hf).symm

theorem c_clearanceref05_Close (r : Rl) (s : BitVec 64) (w : World) : Calls Tryz.prog 75 #[.agg (relC r), U s] w (Pure (U (closeG r s)) w) := by
  refine enter Tryz.func75 rfl Tryz.ntmps75 rfl ?_
  have hH := Hp.start w
  refine CW.seq ?_
  refine CW.region ?_
  refine RL.new rfl hH (f := fun b => (.pointer (some ⟨b, 0, none⟩))) (run_box (v := .agg _) rfl) ?_
  intro b3 w1 hH2
  refine RL.val rfl (run_assign (v := U 0#64) rfl) ?_
  refine RL.nil ?_
  refine CW.seq ?_
  refine CW.region ?_
  refine RL.val rfl (run_assign (v := .slice none 0 0) rfl) ?_
  have hH4 := hH2.nilRow 3 1
  refine RL.nil ?_
  refine CW.seq ?_
  refine CW.seq ?_
  refine CW.region ?_
  refine RL.val rfl (run_ldRel Tryz.underlying42 rfl rfl rfl (hH4.blk (i := 1) rfl)) ?_
  refine RL.callP rfl hH4 (c_clearanceref05_Right _  _) (run_call1 Tryz.call55 rfl) ?_
  intro w5 hH6
  refine RL.val rfl (run_not rfl) ?_
  refine RL.nil ?_
  refine CW.cond rfl (fun h9 => ?_) (fun h9 => ?_)
  · refine CW.seq ?_
    refine CW.region ?_
    refine RL.val rfl (run_assign (v := U 0#64) rfl) ?_
    refine RL.nil ?_
    refine CW.ret ?_
    refine outP1 Tryz.results75 (congrArg U ?_) hH6.below
    first | exact (close_no (nt ‹_›)).symm | (rw [hl]; exact close_ref hr (by omega))
  · refine CW.skip ?_
    refine CW.seq ?_
    refine CW.seq ?_
    refine CW.region ?_
    refine RL.val rfl (run_assign (v := I 0) rfl) ?_
    refine RL.nil ?_
    refine CW.block ?_
    have hr : rightG r = true := nf ‹_›
    have hs := right_spec hr
    refine CW.loop (G := (Int) × (List Int) × (Value)) (fun (⟨o, l, v5⟩ : (Int) × (List Int) × (Value)) s' w' => (Fr [5, 6, 7, 11, 12, 13, 14, 15, 16, 17, 18, 19, 20, 21, 22, 23, 24, 25, 26, 27, 28, 29, 30, 31, 32, 33, 34] _ s') ∧ (Hp w w' (.row v5 3 1 (l.length) (l.map I) :: _)) ∧ (s' 5 = v5) ∧ (s' 6 = I o) ∧ (0 ≤ o) ∧ (o ≤ r.n) ∧ (l = closeL r s o)) (fun (⟨o, l, v5⟩ : (Int) × (List Int) × (Value)) => (r.n - o).toNat) ((0, [], (.slice none 0 0 : Value))) ⟨Fr.refl _ _, hH6, rfl, rfl, (by omega), (by omega), rfl⟩ ?_
    rintro ⟨o, l, v5⟩ sg10 w10 ⟨fr10, hH10, e5_10, e6_10, o0, o1, hl⟩
    have e1_10 : sg10 1 = U _ := (fr10 1 rfl).trans rfl
    have e2_10 : sg10 2 = .pointer (some ⟨_, _, none⟩) := (fr10 2 rfl).trans rfl
    have e4_10 : sg10 4 = U _ := (fr10 4 rfl).trans rfl
    refine CW.seq ?_
    refine CW.seq ?_
    refine CW.region ?_
    refine RL.val rfl (run_move e6_10) ?_
    refine RL.val rfl (run_fieldAddr Tryz.underlying42 rfl (off := 0) rfl Tryz.sizeOf3 (by decide) e2_10) ?_
    refine RL.val rfl (run_ld Tryz.underlying3 rfl rfl (hH10.cell (i := 1) rfl (relC_N _))) ?_
    refine RL.val rfl (run_lss rfl rfl) ?_
    refine RL.nil ?_
    refine CW.condP rfl (fun h12 => ?_) (fun h12 => ?_)
    · refine CW.skip ?_
      refine CW.seq ?_
      refine CW.block ?_
      refine CW.seq ?_
      refine CW.region ?_
      refine RL.val rfl (run_assign (v := I 0) rfl) ?_
      refine RL.nil ?_
      refine CW.block ?_
      refine CW.loop (G := (Int) × (List Int) × (Value)) (fun (⟨x, l2, v5⟩ : (Int) × (List Int) × (Value)) s' w' => (Fr [5, 7, 17, 18, 19, 20, 21, 22, 23, 24, 25, 26, 27, 28, 29, 30, 31, 32, 33, 34] _ s') ∧ (Hp w w' (.row v5 3 1 (l2.length) (l2.map I) :: _)) ∧ (s' 5 = v5) ∧ (s' 7 = I x) ∧ (0 ≤ x) ∧ (x ≤ r.n) ∧ (l2 = closeL r s o ++ rowL r s o x)) (fun (⟨x, l2, v5⟩ : (Int) × (List Int) × (Value)) => (r.n - x).toNat) ((0, l, (v5 : Value))) ⟨Fr.refl _ _, hH10, e5_10, rfl, (by omega), (by omega), (by rw [hl, rowL]; simp [upto])⟩ ?_
      rintro ⟨x, l2, v5⟩ sg13 w13 ⟨fr13, hH13, e5_13, e7_13, x0, x1, h2⟩
      have e1_13 := (fr13 1 rfl).trans e1_10
      have e2_13 := (fr13 2 rfl).trans e2_10
      have e4_13 := (fr13 4 rfl).trans e4_10
      have e6_13 := (fr13 6 rfl).trans e6_10
      have e11_13 : sg13 11 = I _ := (fr13 11 rfl).trans rfl
      have e12_13 : sg13 12 = .pointer (some ⟨_, _, none⟩) := (fr13 12 rfl).trans rfl
      have e13_13 : sg13 13 = I _ := (fr13 13 rfl).trans rfl
      have e14_13 : sg13 14 = B _ := (fr13 14 rfl).trans rfl
      refine CW.seq ?_
      refine CW.seq ?_
      refine CW.region ?_
      refine RL.val rfl (run_move e7_13) ?_
      refine RL.val rfl (run_fieldAddr Tryz.underlying42 rfl (off := 0) rfl Tryz.sizeOf3 (by decide) e2_13) ?_
      refine RL.val rfl (run_ld Tryz.underlying3 rfl rfl (hH13.cell (i := 1) rfl (relC_N _))) ?_
      refine RL.val rfl (run_lss rfl rfl) ?_
      refine RL.nil ?_
      refine CW.condP rfl (fun h15 => ?_) (fun h15 => ?_)
      · refine CW.skip ?_
        refine CW.seq ?_
        refine CW.block ?_
        refine CW.seq ?_
        refine CW.region ?_
        refine RL.val rfl (run_ldRel Tryz.underlying42 rfl rfl e2_13 (hH13.blk (i := 1) rfl)) ?_
        refine RL.val rfl (run_move e1_13) ?_
        refine RL.val rfl (run_move e6_13) ?_
        refine RL.val rfl (run_move e7_13) ?_
        refine RL.callP rfl hH13 (c_clearanceref05_follows _ _ _ _ (by first | assumption | omega) _) (run_call4 Tryz.call108 rfl rfl rfl rfl) ?_
        intro w16 hH17
        refine RL.nil ?_
        refine CW.cond rfl (fun h19 => ?_) (fun h19 => ?_)
        · refine CW.region ?_
          refine RL.val rfl (run_move e5_13) ?_
          refine RL.val rfl (run_move e6_13) ?_
          refine RL.val rfl (run_mul rfl rfl (by omega)) ?_
          refine RL.val rfl (run_move e7_13) ?_
          refine RL.val rfl (run_add rfl rfl (by omega)) ?_
          refine RL.new rfl hH17 (f := fun b => (.slice (some ⟨b, 0, none⟩) 1 1)) (run_mkL Tryz.underlying72 rfl rfl (sz := 1) (vs := [I _]) rfl rfl (by decide) (by decide) rfl rfl) ?_
          intro b22 w20 hH21
          (try simp only [List.flatMap_cons, List.flatMap_nil, clI, clB, clS, clP, clL, clA, List.append_nil, List.cons_append, List.nil_append] at hH21)
          refine RL.app rfl hH21 (i := 1) rfl (hH21.slBlk (i := 0) (n := 1) (sz := 1) rfl rfl (by decide)) rfl rfl Tryz.underlying72 rfl rfl (size := 1) (bytes := 8) rfl rfl rfl (by decide) (by simp [Value.oneCell']) (by rw [h2]; have := @closeL_len r s o hs.1.2 (by omega); have := @rowL_len r s o x; simp; omega) (by rw [h2]; have := @closeL_len r s o hs.1.2 (by omega); have := @rowL_len r s o x; simp only [maxLen]; simp; omega) ?_
          intro v23 w24 hH25
          simp only [List.set_cons_zero, List.set_cons_succ] at hH25
          refine RL.val rfl (run_assign (by conv => lhs; whnf)) ?_
          refine RL.nil ?_
          refine CW.region ?_
          refine RL.val rfl (run_move e7_13) ?_
          refine RL.val rfl (run_add rfl rfl (by omega)) ?_
          refine RL.val rfl (run_assign (v := I _) rfl) ?_
          refine RL.nil ?_
          refine ⟨(x + 1, l2 ++ [8 * o + x], v23), ?_, (((((((((((((((((((fr13.u rfl).u rfl).u rfl).u rfl).u rfl).u rfl).u rfl).u rfl).u rfl).u rfl).u rfl).u rfl).u rfl).u rfl).u rfl).u rfl).u rfl).u rfl).u rfl).u rfl, (Hp.conv (hH25.sub (.cons _ (List.Sublist.refl _))) (by first | rfl | simp)), rfl, (congrArg I (by first | rfl | omega)), ?_, ?_, ?_⟩
          · ((try dsimp only); omega)
          · omega
          · omega
          · (rw [h2]; first | (rw [List.append_assoc, rowL_yes x0 ‹_›]) | (rw [rowL_no x0 ‹_›]))
        · refine CW.skip ?_
          refine CW.region ?_
          refine RL.val rfl (run_move e7_13) ?_
          refine RL.val rfl (run_add rfl rfl (by omega)) ?_
          refine RL.val rfl (run_assign (v := I _) rfl) ?_
          refine RL.nil ?_
          refine ⟨(x + 1, l2, v5), ?_, (((((((((((fr13.u rfl).u rfl).u rfl).u rfl).u rfl).u rfl).u rfl).u rfl).u rfl).u rfl).u rfl).u rfl, (Hp.conv hH17 (by first | rfl | simp)), e5_13, (congrArg I (by first | rfl | omega)), ?_, ?_, ?_⟩
          · ((try dsimp only); omega)
          · omega
          · omega
          · (rw [h2]; first | (rw [List.append_assoc, rowL_yes x0 ‹_›]) | (rw [rowL_no x0 ‹_›]))
      · refine CW.exit (id := 2) rfl ?_
        refine CW.region ?_
        refine RL.val rfl (run_move e6_13) ?_
        refine RL.val rfl (run_add rfl rfl (by omega)) ?_
        refine RL.val rfl (run_assign (v := I _) rfl) ?_
        refine RL.nil ?_
        refine ⟨(o + 1, l2, v5), ?_, (((((((((((((fr10.u rfl).u rfl).u rfl).u rfl).u rfl).t fr13 rfl)).u rfl).u rfl).u rfl).u rfl).u rfl).u rfl).u rfl, (Hp.conv hH13 (by first | rfl | simp)), e5_13, (congrArg I (by first | rfl | omega)), ?_, ?_, ?_⟩
        · ((try dsimp only); omega)
        · omega
        · omega
        · (rw [h2]; exact closeL_next o0 (by omega))
    · refine CW.exit (id := 0) rfl ?_
      refine CW.seq ?_
      refine CW.region ?_
      refine RL.val rfl (run_move e5_10) ?_
      refine RL.callP rfl hH10 (c_clearanceref01_Of _ _  _ (hH10.sl (i := 0) rfl)) (run_call1 Tryz.call62 rfl) ?_
      intro w26 hH27
      refine RL.val rfl (run_assign (v := U _) rfl) ?_
      refine RL.nil ?_
      refine CW.ret ?_
      refine outP1 Tryz.results75 (congrArg U ?_) hH27.below
      first | exact (close_no (nt ‹_›)).symm | (rw [hl]; exact close_ref hr (by omega))

theorem c_clearanceref05_Top (r : Rl) (w : World) : Calls Tryz.prog 35 #[.agg (relC r)] w (Pure (U (topG r)) w) := by
  refine enter Tryz.func35 rfl Tryz.ntmps35 rfl ?_
  have hH := Hp.start w
  refine CW.seq ?_
  refine CW.region ?_
  refine RL.new rfl hH (f := fun b => (.pointer (some ⟨b, 0, none⟩))) (run_box (v := .agg _) rfl) ?_
  intro b3 w1 hH2
  refine RL.val rfl (run_assign (v := U 0#64) rfl) ?_
  refine RL.nil ?_
  refine CW.seq ?_
  refine CW.region ?_
  refine RL.val rfl (run_assign (v := .slice none 0 0) rfl) ?_
  have hH4 := hH2.nilRow 3 1
  refine RL.nil ?_
  refine CW.seq ?_
  refine CW.seq ?_
  refine CW.region ?_
  refine RL.val rfl (run_assign (v := I 0) rfl) ?_
  refine RL.nil ?_
  refine CW.block ?_
  refine CW.loop (G := (Int) × (List Int) × (Value)) (fun (⟨o, l, v3⟩ : (Int) × (List Int) × (Value)) s' w' => (Fr [3, 4, 5, 6, 7, 8, 9, 10, 11, 12, 13, 14, 15, 16, 17, 18, 19, 20, 21, 22, 23, 24, 25, 26, 27, 28] _ s') ∧ (Hp w w' (.row v3 3 1 (l.length) (l.map I) :: _)) ∧ (s' 3 = v3) ∧ (s' 4 = I o) ∧ (0 ≤ o) ∧ (rightG r = true → o ≤ r.n) ∧ (rightG r = false → l = []) ∧ (rightG r = true → l = topL r o)) (fun (⟨o, l, v3⟩ : (Int) × (List Int) × (Value)) => (9 - o).toNat) ((0, [], (.slice none 0 0 : Value))) ⟨Fr.refl _ _, hH4, rfl, rfl, (by omega), (fun h => by have := right_spec h; omega), fun _ => rfl, fun _ => rfl⟩ ?_
  rintro ⟨o, l, v3⟩ sg5 w5 ⟨fr5, hH5, e3_5, e4_5, o0, o1, o2, hl⟩
  have e1_5 : sg5 1 = .pointer (some ⟨_, _, none⟩) := (fr5 1 rfl).trans rfl
  have e2_5 : sg5 2 = U _ := (fr5 2 rfl).trans rfl
  refine CW.seq ?_
  refine CW.seq ?_
  refine CW.region ?_
  refine RL.val rfl (run_ldRel Tryz.underlying42 rfl rfl e1_5 (hH5.blk (i := 1) rfl)) ?_
  refine RL.callP rfl hH5 (c_clearanceref05_Right _  _) (run_call1 Tryz.call55 rfl) ?_
  intro w6 hH7
  refine RL.val rfl (run_move (v := B _) rfl) ?_
  refine RL.split (dj := 8) rfl (fun h9 => ?_) (fun h9 => ?_)
  · refine RL.gT rfl (bR (c := true) h9) ?_
    refine RL.val rfl (run_move e4_5) ?_
    refine RL.gT rfl (bR (c := true) h9) ?_
    refine RL.val rfl (run_fieldAddr Tryz.underlying42 rfl (off := 0) rfl Tryz.sizeOf3 (by decide) e1_5) ?_
    refine RL.gT rfl (bR (c := true) h9) ?_
    refine RL.val rfl (run_ld Tryz.underlying3 rfl rfl (hH7.cell (i := 1) rfl (relC_N _))) ?_
    refine RL.gT rfl (bR (c := true) h9) ?_
    refine RL.val rfl (run_lss rfl rfl) ?_
    refine RL.val rfl (run_pickT (bR (c := true) h9) (v := B _) rfl) ?_
    refine RL.nil ?_
    refine CW.condP rfl (fun h11 => ?_) (fun h11 => ?_)
    · refine CW.skip ?_
      refine CW.seq ?_
      refine CW.block ?_
      refine CW.seq ?_
      refine CW.region ?_
      refine RL.val rfl (run_assign (v := I 0) rfl) ?_
      refine RL.nil ?_
      refine CW.block ?_
      have hs := right_spec ‹rightG r = true›
      refine CW.loop (G := (Int) × (List Int) × (Value)) (fun (⟨x, l2, v3⟩ : (Int) × (List Int) × (Value)) s' w' => (Fr [3, 5, 16, 17, 18, 19, 20, 21, 22, 23, 24, 25, 26, 27, 28] _ s') ∧ (Hp w w' (.row v3 3 1 (l2.length) (l2.map I) :: _)) ∧ (s' 3 = v3) ∧ (s' 5 = I x) ∧ (0 ≤ x) ∧ (x ≤ r.n) ∧ (l2 = topL r o ++ (upto x).map (8 * o + ·))) (fun (⟨x, l2, v3⟩ : (Int) × (List Int) × (Value)) => (r.n - x).toNat) ((0, l, (v3 : Value))) ⟨Fr.refl _ _, hH7, e3_5, rfl, (by omega), (by omega), (by rw [hl ‹_›]; simp [upto])⟩ ?_
      rintro ⟨x, l2, v3⟩ sg12 w12 ⟨fr12, hH12, e3_12, e5_12, x0, x1, h2⟩
      have e1_12 := (fr12 1 rfl).trans e1_5
      have e2_12 := (fr12 2 rfl).trans e2_5
      have e4_12 := (fr12 4 rfl).trans e4_5
      have e6_12 : sg12 6 = .agg _ := (fr12 6 rfl).trans rfl
      have e7_12 : sg12 7 = B _ := (fr12 7 rfl).trans rfl
      have e8_12 : sg12 8 = B _ := (fr12 8 rfl).trans rfl
      have e9_12 : sg12 9 = I _ := (fr12 9 rfl).trans rfl
      have e10_12 : sg12 10 = .pointer (some ⟨_, _, none⟩) := (fr12 10 rfl).trans rfl
      have e11_12 : sg12 11 = I _ := (fr12 11 rfl).trans rfl
      have e12_12 : sg12 12 = B _ := (fr12 12 rfl).trans rfl
      have e13_12 : sg12 13 = B _ := (fr12 13 rfl).trans rfl
      refine CW.seq ?_
      refine CW.seq ?_
      refine CW.region ?_
      refine RL.val rfl (run_move e5_12) ?_
      refine RL.val rfl (run_fieldAddr Tryz.underlying42 rfl (off := 0) rfl Tryz.sizeOf3 (by decide) e1_12) ?_
      refine RL.val rfl (run_ld Tryz.underlying3 rfl rfl (hH12.cell (i := 1) rfl (relC_N _))) ?_
      refine RL.val rfl (run_lss rfl rfl) ?_
      refine RL.nil ?_
      refine CW.condP rfl (fun h14 => ?_) (fun h14 => ?_)
      · refine CW.skip ?_
        refine CW.seq ?_
        refine CW.block ?_
        refine CW.region ?_
        refine RL.val rfl (run_move e3_12) ?_
        refine RL.val rfl (run_move e4_12) ?_
        refine RL.val rfl (run_mul rfl rfl (by omega)) ?_
        refine RL.val rfl (run_move e5_12) ?_
        refine RL.val rfl (run_add rfl rfl (by omega)) ?_
        refine RL.new rfl hH12 (f := fun b => (.slice (some ⟨b, 0, none⟩) 1 1)) (run_mkL Tryz.underlying72 rfl rfl (sz := 1) (vs := [I _]) rfl rfl (by decide) (by decide) rfl rfl) ?_
        intro b17 w15 hH16
        (try simp only [List.flatMap_cons, List.flatMap_nil, clI, clB, clS, clP, clL, clA, List.append_nil, List.cons_append, List.nil_append] at hH16)
        refine RL.app rfl hH16 (i := 1) rfl (hH16.slBlk (i := 0) (n := 1) (sz := 1) rfl rfl (by decide)) rfl rfl Tryz.underlying72 rfl rfl (size := 1) (bytes := 8) rfl rfl rfl (by decide) (by simp [Value.oneCell']) (by rw [h2]; have := @topL_len r o (by omega) (by omega); simp [upto_len]; omega) (by rw [h2]; have := @topL_len r o (by omega) (by omega); simp only [maxLen]; simp [upto_len]; omega) ?_
        intro v18 w19 hH20
        simp only [List.set_cons_zero, List.set_cons_succ] at hH20
        refine RL.val rfl (run_assign (by conv => lhs; whnf)) ?_
        refine RL.nil ?_
        refine CW.region ?_
        refine RL.val rfl (run_move e5_12) ?_
        refine RL.val rfl (run_add rfl rfl (by omega)) ?_
        refine RL.val rfl (run_assign (v := I _) rfl) ?_
        refine RL.nil ?_
        refine ⟨(x + 1, l2 ++ [8 * o + x], v18), ?_, ((((((((((((((fr12.u rfl).u rfl).u rfl).u rfl).u rfl).u rfl).u rfl).u rfl).u rfl).u rfl).u rfl).u rfl).u rfl).u rfl).u rfl, (Hp.conv (hH20.sub (.cons _ (List.Sublist.refl _))) (by first | rfl | simp)), rfl, (congrArg I (by first | rfl | omega)), ?_, ?_, ?_⟩
        · ((try dsimp only); omega)
        · omega
        · omega
        · (rw [h2, List.append_assoc, topR_next x0])
      · refine CW.exit (id := 2) rfl ?_
        refine CW.region ?_
        refine RL.val rfl (run_move e4_12) ?_
        refine RL.val rfl (run_add rfl rfl (by omega)) ?_
        refine RL.val rfl (run_assign (v := I _) rfl) ?_
        refine RL.nil ?_
        refine ⟨(o + 1, l2, v3), ?_, (((((((((((((((((fr5.u rfl).u rfl).u rfl).u rfl).u rfl).u rfl).u rfl).u rfl).u rfl).t fr12 rfl)).u rfl).u rfl).u rfl).u rfl).u rfl).u rfl).u rfl, (Hp.conv hH12 (by first | rfl | simp)), e3_12, (congrArg I (by first | rfl | omega)), ?_, ?_, ?_, ?_⟩
        · have := right_spec ‹rightG r = true›; ((try dsimp only); omega)
        · omega
        · exact fun h => by omega
        · exact fun h => by rw [‹rightG r = true›] at h; cases h
        · exact fun _ => by rw [h2]; exact topL_next o0 (by omega)
    · refine CW.exit (id := 0) rfl ?_
      refine CW.seq ?_
      refine CW.region ?_
      refine RL.val rfl (run_move e3_5) ?_
      refine RL.callP rfl hH7 (c_clearanceref01_Of _ _  _ (hH7.sl (i := 0) rfl)) (run_call1 Tryz.call62 rfl) ?_
      intro w21 hH22
      refine RL.val rfl (run_assign (v := U _) rfl) ?_
      refine RL.nil ?_
      refine CW.ret ?_
      refine outP1 Tryz.results35 (congrArg U ?_) hH22.below
      first | (rw [o2 ‹_›, top_no ‹_›]; exact ofl_nil) | (rw [hl ‹_›]; exact top_ref ‹_› (by have := o1 ‹_›; omega))
  · refine RL.gF rfl rfl (bR (c := false) h9) rfl ?_
    refine RL.gF rfl rfl (bR (c := false) h9) rfl ?_
    refine RL.gF rfl rfl (bR (c := false) h9) rfl ?_
    refine RL.gF rfl rfl (bR (c := false) h9) rfl ?_
    refine RL.val rfl (run_pickF (bR (c := false) h9) (v := B false) rfl) ?_
    refine RL.nil ?_
    refine CW.condF rfl ?_
    refine CW.exit (id := 0) rfl ?_
    refine CW.seq ?_
    refine CW.region ?_
    refine RL.val rfl (run_move e3_5) ?_
    refine RL.callP rfl hH7 (c_clearanceref01_Of _ _  _ (hH7.sl (i := 0) rfl)) (run_call1 Tryz.call62 rfl) ?_
    intro w23 hH24
    refine RL.val rfl (run_assign (v := U _) rfl) ?_
    refine RL.nil ?_
    refine CW.ret ?_
    refine outP1 Tryz.results35 (congrArg U ?_) hH24.below
    first | (rw [o2 ‹_›, top_no ‹_›]; exact ofl_nil) | (rw [hl ‹_›]; exact top_ref ‹_› (by have := o1 ‹_›; omega))

theorem c_clearanceref05_Height (r : Rl) (w : World) : Calls Tryz.prog 39 #[.agg (relC r)] w (Pure (I (heightG r)) w) := by
  refine enter Tryz.func39 rfl Tryz.ntmps39 rfl ?_
  have hH := Hp.start w
  refine CW.seq ?_
  refine CW.region ?_
  refine RL.new rfl hH (f := fun b => (.pointer (some ⟨b, 0, none⟩))) (run_box (v := .agg _) rfl) ?_
  intro b3 w1 hH2
  refine RL.val rfl (run_assign (v := I 0) rfl) ?_
  refine RL.nil ?_
  refine CW.seq ?_
  refine CW.seq ?_
  refine CW.region ?_
  refine RL.val rfl (run_ldRel Tryz.underlying42 rfl rfl rfl (hH2.blk (i := 0) rfl)) ?_
  refine RL.callP rfl hH2 (c_clearanceref05_Right _  _) (run_call1 Tryz.call55 rfl) ?_
  intro w4 hH5
  refine RL.val rfl (run_not rfl) ?_
  refine RL.nil ?_
  refine CW.cond rfl (fun h8 => ?_) (fun h8 => ?_)
  · refine CW.seq ?_
    refine CW.region ?_
    refine RL.val rfl (run_assign (v := I 0) rfl) ?_
    refine RL.nil ?_
    refine CW.ret ?_
    refine outP1 Tryz.results39 (congrArg I ?_) hH5.below
    first | exact (height_no (nt ‹_›)).symm | exact height_yes (nf ‹_›)
  · refine CW.skip ?_
    refine CW.seq ?_
    refine CW.regionD (by kernel_rfl) hH5 ?_
    intro w9 hH10
    refine AN.take 0 rfl rfl (by kernel_rfl) (by kernel_rfl) (by kernel_rfl) (hH10.sub (List.Sublist.refl _)) (fun w hS => run_ldRel Tryz.underlying42 rfl rfl rfl (hS.blk (i := 0) rfl)) ?_
    refine AN.take 2 rfl rfl (by kernel_rfl) (by kernel_rfl) (by kernel_rfl) (hH10.sub (List.Sublist.refl _)) (fun w hS => run_ldRel Tryz.underlying42 rfl rfl rfl (hS.blk (i := 0) rfl)) ?_
    refine AN.one 1 (by kernel_rfl) ?_
    refine AO.callP rfl gnone rfl hH10 (List.Sublist.refl _) (c_clearanceref03_Classes _  _) (run_call1 Tryz.call69 rfl) ?_
    intro w11 hH12
    refine AN.one 3 (by kernel_rfl) ?_
    refine AO.callP rfl gnone rfl hH12 (List.Sublist.refl _) (c_clearanceref03_Classes _  _) (run_call1 Tryz.call69 rfl) ?_
    intro w13 hH14
    refine AN.take 4 rfl rfl (by kernel_rfl) (by kernel_rfl) (by kernel_rfl) (hH14.sub (List.Sublist.refl _)) (fun w hS => run_mul rfl rfl (by exact cls_sq (nf ‹_›))) ?_
    refine AN.take 5 rfl rfl (by kernel_rfl) (by kernel_rfl) (by kernel_rfl) (hH14.sub (List.Sublist.refl _)) (fun w hS => run_assign (v := I _) rfl) ?_
    refine AN.done (by kernel_rfl) ?_
    refine CW.ret ?_
    refine outP1 Tryz.results39 (congrArg I ?_) hH14.below
    first | exact (height_no (nt ‹_›)).symm | exact height_yes (nf ‹_›)

theorem c_name_letter (c : Int) (w : World) : Calls Tryz.prog 112 #[.int .u8 c] w (Pure (B (letterB c)) w) := by
  refine enter Tryz.func112 rfl Tryz.ntmps112 rfl ?_
  have hH := Hp.start w
  refine CW.seq ?_
  refine CW.region ?_
  refine RL.val rfl (run_assign (v := B false) rfl) ?_
  refine RL.nil ?_
  refine CW.seq ?_
  refine CW.region ?_
  refine RL.val rfl (run_move (v := .int _ _) rfl) ?_
  refine RL.val rfl (run_geq rfl rfl) ?_
  refine RL.val rfl (run_move (v := B _) rfl) ?_
  refine RL.splitP (dj := 5) rfl (fun h2 => ?_) (fun h2 => ?_)
  · refine RL.gT rfl (bT h2) ?_
    refine RL.val rfl (run_move (v := .int _ _) rfl) ?_
    refine RL.gT rfl (bT h2) ?_
    refine RL.val rfl (run_leq rfl rfl) ?_
    refine RL.val rfl (run_pickT (bT h2) (v := B _) rfl) ?_
    refine RL.val rfl (run_assign (v := B _) rfl) ?_
    refine RL.nil ?_
    refine CW.ret ?_
    refine outP1 Tryz.results112 (congrArg B ?_) hH.below
    (rw [letterB, Bool.eq_iff_iff]; simp only [decide_eq_true_eq, Bool.false_eq_true, false_iff]; omega)
  · refine RL.gF rfl rfl (bF h2) rfl ?_
    refine RL.gF rfl rfl (bF h2) rfl ?_
    refine RL.val rfl (run_pickF (bF h2) (v := B false) rfl) ?_
    refine RL.val rfl (run_assign (v := B _) rfl) ?_
    refine RL.nil ?_
    refine CW.ret ?_
    refine outP1 Tryz.results112 (congrArg B ?_) hH.below
    (rw [letterB, Bool.eq_iff_iff]; simp only [decide_eq_true_eq, Bool.false_eq_true, false_iff]; omega)

theorem c_clearanceref02_letter (c : Int) (w : World) : Calls Tryz.prog 88 #[.int .u8 c] w (Pure (B (letterB c)) w) := by
  refine enter Tryz.func88 rfl Tryz.ntmps88 rfl ?_
  have hH := Hp.start w
  refine CW.seq ?_
  refine CW.region ?_
  refine RL.val rfl (run_assign (v := B false) rfl) ?_
  refine RL.nil ?_
  refine CW.seq ?_
  refine CW.region ?_
  refine RL.val rfl (run_move (v := .int _ _) rfl) ?_
  refine RL.val rfl (run_geq rfl rfl) ?_
  refine RL.val rfl (run_move (v := B _) rfl) ?_
  refine RL.splitP (dj := 5) rfl (fun h2 => ?_) (fun h2 => ?_)
  · refine RL.gT rfl (bT h2) ?_
    refine RL.val rfl (run_move (v := .int _ _) rfl) ?_
    refine RL.gT rfl (bT h2) ?_
    refine RL.val rfl (run_leq rfl rfl) ?_
    refine RL.val rfl (run_pickT (bT h2) (v := B _) rfl) ?_
    refine RL.val rfl (run_assign (v := B _) rfl) ?_
    refine RL.nil ?_
    refine CW.ret ?_
    refine outP1 Tryz.results88 (congrArg B ?_) hH.below
    (rw [letterB, Bool.eq_iff_iff]; simp only [decide_eq_true_eq, Bool.false_eq_true, false_iff]; omega)
  · refine RL.gF rfl rfl (bF h2) rfl ?_
    refine RL.gF rfl rfl (bF h2) rfl ?_
    refine RL.val rfl (run_pickF (bF h2) (v := B false) rfl) ?_
    refine RL.val rfl (run_assign (v := B _) rfl) ?_
    refine RL.nil ?_
    refine CW.ret ?_
    refine outP1 Tryz.results88 (congrArg B ?_) hH.below
    (rw [letterB, Bool.eq_iff_iff]; simp only [decide_eq_true_eq, Bool.false_eq_true, false_iff]; omega)

theorem c_name_goes (c : Int) (w : World) : Calls Tryz.prog 113 #[.int .u8 c] w (Pure (B (goesB c)) w) := by
  refine enter Tryz.func113 rfl Tryz.ntmps113 rfl ?_
  have hH := Hp.start w
  refine CW.seq ?_
  refine CW.region ?_
  refine RL.val rfl (run_assign (v := B false) rfl) ?_
  refine RL.nil ?_
  refine CW.seq ?_
  refine CW.region ?_
  refine RL.val rfl (run_move (v := .int _ _) rfl) ?_
  refine RL.callP rfl hH (c_name_letter _  _) (run_call1 Tryz.call112 rfl) ?_
  intro w1 hH2
  refine RL.val rfl (run_move (v := B _) rfl) ?_
  refine RL.split (dj := 5) rfl (fun h4 => ?_) (fun h4 => ?_)
  · refine RL.gF rfl rfl (bR (c := true) h4) rfl ?_
    refine RL.gF rfl rfl (bR (c := true) h4) rfl ?_
    refine RL.gF rfl rfl (bR (c := true) h4) rfl ?_
    refine RL.gU rfl rfl rfl ?_
    refine RL.gU rfl rfl rfl ?_
    refine RL.gF rfl rfl (bR (c := true) h4) rfl ?_
    refine RL.val rfl (run_pickT (bR (c := true) h4) (v := B true) rfl) ?_
    refine RL.val rfl (run_move (v := B _) rfl) ?_
    refine RL.gF rfl rfl rfl rfl ?_
    refine RL.gF rfl rfl rfl rfl ?_
    refine RL.val rfl (run_pickT rfl (v := B true) rfl) ?_
    refine RL.val rfl (run_assign (v := B _) rfl) ?_
    refine RL.nil ?_
    refine CW.ret ?_
    refine outP1 Tryz.results113 (congrArg B ?_) hH2.below
    first | exact (goes_letter ‹_›).symm | (have hlc := ‹letterB c = false›; rw [letterB, decide_eq_false_iff_not] at hlc; rw [goesB, Bool.eq_iff_iff]; simp only [decide_eq_true_eq, Bool.false_eq_true, false_iff, true_iff]; omega)
  · refine RL.gT rfl (bR (c := false) h4) ?_
    refine RL.val rfl (run_move (v := .int _ _) rfl) ?_
    refine RL.gT rfl (bR (c := false) h4) ?_
    refine RL.val rfl (run_geq rfl rfl) ?_
    refine RL.gT rfl (bR (c := false) h4) ?_
    refine RL.val rfl (run_move (v := B _) rfl) ?_
    refine RL.splitP (dj := 8) rfl (fun h6 => ?_) (fun h6 => ?_)
    · refine RL.gT rfl (bT h6) ?_
      refine RL.val rfl (run_move (v := .int _ _) rfl) ?_
      refine RL.gT rfl (bT h6) ?_
      refine RL.val rfl (run_leq rfl rfl) ?_
      refine RL.gT rfl (bR (c := false) h4) ?_
      refine RL.val rfl (run_pickT (bT h6) (v := B _) rfl) ?_
      refine RL.val rfl (run_pickF (bR (c := false) h4) (v := B _) rfl) ?_
      refine RL.val rfl (run_move (v := B _) rfl) ?_
      refine RL.splitP (dj := 13) rfl (fun h8 => ?_) (fun h8 => ?_)
      · refine RL.gF rfl rfl (bT h8) rfl ?_
        refine RL.gF rfl rfl (bT h8) rfl ?_
        refine RL.val rfl (run_pickT (bT h8) (v := B true) rfl) ?_
        refine RL.val rfl (run_assign (v := B _) rfl) ?_
        refine RL.nil ?_
        refine CW.ret ?_
        refine outP1 Tryz.results113 (congrArg B ?_) hH2.below
        first | exact (goes_letter ‹_›).symm | (have hlc := ‹letterB c = false›; rw [letterB, decide_eq_false_iff_not] at hlc; rw [goesB, Bool.eq_iff_iff]; simp only [decide_eq_true_eq, Bool.false_eq_true, false_iff, true_iff]; omega)
      · refine RL.gT rfl (bF h8) ?_
        refine RL.val rfl (run_move (v := .int _ _) rfl) ?_
        refine RL.gT rfl (bF h8) ?_
        refine RL.val rfl (run_eql rfl rfl) ?_
        refine RL.val rfl (run_pickF (bF h8) (v := B _) rfl) ?_
        refine RL.val rfl (run_assign (v := B _) rfl) ?_
        refine RL.nil ?_
        refine CW.ret ?_
        refine outP1 Tryz.results113 (congrArg B ?_) hH2.below
        first | exact (goes_letter ‹_›).symm | (have hlc := ‹letterB c = false›; rw [letterB, decide_eq_false_iff_not] at hlc; rw [goesB, Bool.eq_iff_iff]; simp only [decide_eq_true_eq, Bool.false_eq_true, false_iff, true_iff]; omega)
    · refine RL.gF rfl rfl (bF h6) rfl ?_
      refine RL.gF rfl rfl (bF h6) rfl ?_
      refine RL.gT rfl (bR (c := false) h4) ?_
      refine RL.val rfl (run_pickF (bF h6) (v := B false) rfl) ?_
      refine RL.val rfl (run_pickF (bR (c := false) h4) (v := B _) rfl) ?_
      refine RL.val rfl (run_move (v := B _) rfl) ?_
      refine RL.gT rfl rfl ?_
      refine RL.val rfl (run_move (v := .int _ _) rfl) ?_
      refine RL.gT rfl rfl ?_
      refine RL.val rfl (run_eql rfl rfl) ?_
      refine RL.val rfl (run_pickF rfl (v := B _) rfl) ?_
      refine RL.val rfl (run_assign (v := B _) rfl) ?_
      refine RL.nil ?_
      refine CW.ret ?_
      refine outP1 Tryz.results113 (congrArg B ?_) hH2.below
      first | exact (goes_letter ‹_›).symm | (have hlc := ‹letterB c = false›; rw [letterB, decide_eq_false_iff_not] at hlc; rw [goesB, Bool.eq_iff_iff]; simp only [decide_eq_true_eq, Bool.false_eq_true, false_iff, true_iff]; omega)

theorem c_name_Right (s : Tx) (w : World) : Calls Tryz.prog 82 #[S s] w (Pure (B (nameR s)) w) := by
  have htx := @tx_nil s
  refine enter Tryz.func82 rfl Tryz.ntmps82 rfl ?_
  have hH := Hp.start w
  refine CW.seq ?_
  refine CW.region ?_
  refine RL.val rfl (run_assign (v := B false) rfl) ?_
  refine RL.nil ?_
  refine CW.seq ?_
  refine CW.seq ?_
  refine CW.region ?_
  refine RL.val rfl (run_move (v := .string _) rfl) ?_
  refine RL.val rfl (run_eqlS rfl rfl) ?_
  refine RL.val rfl (run_move (v := B _) rfl) ?_
  refine RL.splitP (dj := 6) rfl (fun h2 => ?_) (fun h2 => ?_)
  · refine RL.gF rfl rfl (bT h2) rfl ?_
    refine RL.gF rfl rfl (bT h2) rfl ?_
    refine RL.gF rfl rfl (bT h2) rfl ?_
    refine RL.val rfl (run_pickT (bT h2) (v := B true) rfl) ?_
    refine RL.val rfl (run_move (v := B _) rfl) ?_
    refine RL.gF rfl rfl rfl rfl ?_
    refine RL.gF rfl rfl rfl rfl ?_
    refine RL.gF rfl rfl rfl rfl ?_
    refine RL.gF rfl rfl rfl rfl ?_
    refine RL.val rfl (run_pickT rfl (v := B true) rfl) ?_
    refine RL.nil ?_
    refine CW.condT rfl ?_
    refine CW.seq ?_
    refine CW.region ?_
    refine RL.val rfl (run_assign (v := B false) rfl) ?_
    refine RL.nil ?_
    refine CW.ret ?_
    refine outP1 Tryz.results82 (congrArg B ?_) hH.below
    first | exact (nameR_no1 (by first | omega | (have := htx.1 ‹s = tx0›; omega))).symm | exact (nameR_no2 (nt ‹_›)).symm | exact (nameR_no3 h0 ‹_› (nt ‹_›)).symm | exact (nameR_yes hsz (nf ‹_›) ‹_› hf).symm
  · refine RL.gT rfl (bF h2) ?_
    refine RL.val rfl (run_move (v := .string _) rfl) ?_
    refine RL.gT rfl (bF h2) ?_
    refine RL.val rfl (run_lenStr rfl Tryz.underlying9 rfl) ?_
    refine RL.gT rfl (bF h2) ?_
    refine RL.val rfl (run_gtr rfl rfl) ?_
    refine RL.val rfl (run_pickF (bF h2) (v := B _) rfl) ?_
    refine RL.val rfl (run_move (v := B _) rfl) ?_
    refine RL.splitP (dj := 11) rfl (fun h4 => ?_) (fun h4 => ?_)
    · refine RL.gF rfl rfl (bT h4) rfl ?_
      refine RL.gF rfl rfl (bT h4) rfl ?_
      refine RL.gF rfl rfl (bT h4) rfl ?_
      refine RL.gF rfl rfl (bT h4) rfl ?_
      refine RL.val rfl (run_pickT (bT h4) (v := B true) rfl) ?_
      refine RL.nil ?_
      refine CW.condT rfl ?_
      refine CW.seq ?_
      refine CW.region ?_
      refine RL.val rfl (run_assign (v := B false) rfl) ?_
      refine RL.nil ?_
      refine CW.ret ?_
      refine outP1 Tryz.results82 (congrArg B ?_) hH.below
      first | exact (nameR_no1 (by first | omega | (have := htx.1 ‹s = tx0›; omega))).symm | exact (nameR_no2 (nt ‹_›)).symm | exact (nameR_no3 h0 ‹_› (nt ‹_›)).symm | exact (nameR_yes hsz (nf ‹_›) ‹_› hf).symm
    · refine RL.gT rfl (bF h4) ?_
      refine RL.val rfl (run_move (v := .string _) rfl) ?_
      refine RL.gT rfl (bF h4) ?_
      refine RL.val rfl (run_idxS Tryz.underlying9 rfl rfl (by first | omega | (have := mt htx.2 ‹¬ s = tx0›; omega))) ?_
      refine RL.gT rfl (bF h4) ?_
      refine RL.callP rfl hH (c_name_letter _  _) (run_call1 Tryz.call112 rfl) ?_
      intro w5 hH6
      refine RL.gT rfl (bF h4) ?_
      refine RL.val rfl (run_not rfl) ?_
      refine RL.val rfl (run_pickF (bF h4) (v := B _) rfl) ?_
      refine RL.nil ?_
      refine CW.cond rfl (fun h9 => ?_) (fun h9 => ?_)
      · refine CW.seq ?_
        refine CW.region ?_
        refine RL.val rfl (run_assign (v := B false) rfl) ?_
        refine RL.nil ?_
        refine CW.ret ?_
        refine outP1 Tryz.results82 (congrArg B ?_) hH6.below
        first | exact (nameR_no1 (by first | omega | (have := htx.1 ‹s = tx0›; omega))).symm | exact (nameR_no2 (nt ‹_›)).symm | exact (nameR_no3 h0 ‹_› (nt ‹_›)).symm | exact (nameR_yes hsz (nf ‹_›) ‹_› hf).symm
      · refine CW.skip ?_
        refine CW.seq ?_
        refine CW.seq ?_
        refine CW.region ?_
        refine RL.val rfl (run_move (v := .string _) rfl) ?_
        refine RL.val rfl (run_lenStr rfl Tryz.underlying9 rfl) ?_
        refine RL.val rfl (run_move (v := I 0) rfl) ?_
        refine RL.nil ?_
        refine CW.block ?_
        have hsz : 1 ≤ s.size ∧ s.size ≤ 16 := ⟨by have := mt htx.2 ‹¬ s = tx0›; omega, by omega⟩
        refine CW.loop (G := (Int)) (fun (k : Int) s' w' => (Fr [2, 3, 19, 20, 21, 22, 23, 24, 25, 26, 27] _ s') ∧ (Hp w w' _) ∧ (s' 19 = I k) ∧ (0 ≤ k) ∧ (k ≤ s.size) ∧ (∀ j : Int, 0 ≤ j → j < k → goesB (byteAt s j) = true)) (fun (k : Int) => (s.size - k).toNat) (0) ⟨Fr.refl _ _, hH6, rfl, (by omega), (by omega), fun j a b => absurd b (by omega)⟩ ?_
        rintro k sg10 w10 ⟨fr10, hH10, e19_10, h0, hk, hf⟩
        have e0_10 : sg10 0 = .string _ := (fr10 0 rfl).trans rfl
        have e18_10 : sg10 18 = I _ := (fr10 18 rfl).trans rfl
        refine CW.seq ?_
        refine CW.region ?_
        refine RL.val rfl (run_lss e19_10 e18_10) ?_
        refine RL.nil ?_
        refine CW.seq ?_
        refine CW.condP rfl (fun h12 => ?_) (fun h12 => ?_)
        · refine CW.skip ?_
          refine CW.seq ?_
          refine CW.block ?_
          refine CW.seq ?_
          refine CW.region ?_
          refine RL.val rfl (run_move e19_10) ?_
          refine RL.val rfl (run_assign (v := I _) rfl) ?_
          refine RL.nil ?_
          refine CW.seq ?_
          refine CW.region ?_
          refine RL.val rfl (run_move e0_10) ?_
          refine RL.val rfl (run_move (v := I _) rfl) ?_
          refine RL.val rfl (run_idxS Tryz.underlying9 rfl rfl (by first | omega | (have := mt htx.2 ‹¬ s = tx0›; omega))) ?_
          refine RL.callP rfl hH10 (c_name_goes _  _) (run_call1 Tryz.call113 rfl) ?_
          intro w13 hH14
          refine RL.val rfl (run_not rfl) ?_
          refine RL.nil ?_
          refine CW.cond rfl (fun h17 => ?_) (fun h17 => ?_)
          · refine CW.seq ?_
            refine CW.region ?_
            refine RL.val rfl (run_assign (v := B false) rfl) ?_
            refine RL.nil ?_
            refine CW.ret ?_
            refine outP1 Tryz.results82 (congrArg B ?_) hH14.below
            first | exact (nameR_no1 (by first | omega | (have := htx.1 ‹s = tx0›; omega))).symm | exact (nameR_no2 (nt ‹_›)).symm | exact (nameR_no3 h0 ‹_› (nt ‹_›)).symm | exact (nameR_yes hsz (nf ‹_›) ‹_› hf).symm
          · refine CW.skip ?_
            refine CW.region ?_
            refine RL.val rfl (run_add e19_10 rfl (by omega)) ?_
            refine RL.val rfl (run_move (v := I _) rfl) ?_
            refine RL.nil ?_
            refine ⟨k + 1, ?_, (((((((((fr10.u rfl).u rfl).u rfl).u rfl).u rfl).u rfl).u rfl).u rfl).u rfl).u rfl, hH14, (congrArg I (by first | rfl | omega)), ?_, ?_, ?_⟩
            · ((try dsimp only); omega)
            · omega
            · omega
            · exact fun j a b => if e : j = k then e ▸ nf ‹_› else hf j a (by omega)
        · refine CW.exit (id := 0) rfl ?_
          refine CW.seq ?_
          refine CW.region ?_
          refine RL.val rfl (run_assign (v := B true) rfl) ?_
          refine RL.nil ?_
          refine CW.ret ?_
          refine outP1 Tryz.results82 (congrArg B ?_) hH10.below
          first | exact (nameR_no1 (by first | omega | (have := htx.1 ‹s = tx0›; omega))).symm | exact (nameR_no2 (nt ‹_›)).symm | exact (nameR_no3 h0 ‹_› (nt ‹_›)).symm | exact (nameR_yes hsz (nf ‹_›) ‹_› hf).symm

theorem c_clearanceref02_Right (s : Tx) (w : World) : Calls Tryz.prog 53 #[S s] w (Pure (B (nameR s)) w) := by
  refine enter Tryz.func53 rfl Tryz.ntmps53 rfl ?_
  have hH := Hp.start w
  refine CW.seq ?_
  refine CW.region ?_
  refine RL.val rfl (run_assign (v := B false) rfl) ?_
  refine RL.nil ?_
  refine CW.seq ?_
  refine CW.seq ?_
  refine CW.region ?_
  refine RL.val rfl (run_move (v := .string _) rfl) ?_
  refine RL.val rfl (run_lenStr rfl Tryz.underlying9 rfl) ?_
  refine RL.val rfl (run_lss rfl rfl) ?_
  refine RL.val rfl (run_move (v := B _) rfl) ?_
  refine RL.splitP (dj := 7) rfl (fun h2 => ?_) (fun h2 => ?_)
  · refine RL.gF rfl rfl (bT h2) rfl ?_
    refine RL.gF rfl rfl (bT h2) rfl ?_
    refine RL.gF rfl rfl (bT h2) rfl ?_
    refine RL.val rfl (run_pickT (bT h2) (v := B true) rfl) ?_
    refine RL.val rfl (run_move (v := B _) rfl) ?_
    refine RL.gF rfl rfl rfl rfl ?_
    refine RL.gF rfl rfl rfl rfl ?_
    refine RL.gF rfl rfl rfl rfl ?_
    refine RL.gF rfl rfl rfl rfl ?_
    refine RL.val rfl (run_pickT rfl (v := B true) rfl) ?_
    refine RL.nil ?_
    refine CW.condT rfl ?_
    refine CW.seq ?_
    refine CW.region ?_
    refine RL.val rfl (run_assign (v := B false) rfl) ?_
    refine RL.nil ?_
    refine CW.ret ?_
    refine outP1 Tryz.results53 (congrArg B ?_) hH.below
    first | exact (nameR_no1 (by omega)).symm | exact (nameR_no2 (nt ‹_›)).symm | exact (nameR_yes hsz hlt ‹_› hf).symm | exact (nameR_no3 (i := k) (by omega) ‹_› (by have hlc := nt ‹(!letterB (byteAt s k)) = true›; rw [letterB, decide_eq_false_iff_not] at hlc; rw [goesB, decide_eq_false_iff_not]; omega)).symm
  · refine RL.gT rfl (bF h2) ?_
    refine RL.val rfl (run_move (v := .string _) rfl) ?_
    refine RL.gT rfl (bF h2) ?_
    refine RL.val rfl (run_lenStr rfl Tryz.underlying9 rfl) ?_
    refine RL.gT rfl (bF h2) ?_
    refine RL.val rfl (run_gtr rfl rfl) ?_
    refine RL.val rfl (run_pickF (bF h2) (v := B _) rfl) ?_
    refine RL.val rfl (run_move (v := B _) rfl) ?_
    refine RL.splitP (dj := 12) rfl (fun h4 => ?_) (fun h4 => ?_)
    · refine RL.gF rfl rfl (bT h4) rfl ?_
      refine RL.gF rfl rfl (bT h4) rfl ?_
      refine RL.gF rfl rfl (bT h4) rfl ?_
      refine RL.gF rfl rfl (bT h4) rfl ?_
      refine RL.val rfl (run_pickT (bT h4) (v := B true) rfl) ?_
      refine RL.nil ?_
      refine CW.condT rfl ?_
      refine CW.seq ?_
      refine CW.region ?_
      refine RL.val rfl (run_assign (v := B false) rfl) ?_
      refine RL.nil ?_
      refine CW.ret ?_
      refine outP1 Tryz.results53 (congrArg B ?_) hH.below
      first | exact (nameR_no1 (by omega)).symm | exact (nameR_no2 (nt ‹_›)).symm | exact (nameR_yes hsz hlt ‹_› hf).symm | exact (nameR_no3 (i := k) (by omega) ‹_› (by have hlc := nt ‹(!letterB (byteAt s k)) = true›; rw [letterB, decide_eq_false_iff_not] at hlc; rw [goesB, decide_eq_false_iff_not]; omega)).symm
    · refine RL.gT rfl (bF h4) ?_
      refine RL.val rfl (run_move (v := .string _) rfl) ?_
      refine RL.gT rfl (bF h4) ?_
      refine RL.val rfl (run_idxS Tryz.underlying9 rfl rfl (by omega)) ?_
      refine RL.gT rfl (bF h4) ?_
      refine RL.callP rfl hH (c_clearanceref02_letter _  _) (run_call1 Tryz.call88 rfl) ?_
      intro w5 hH6
      refine RL.gT rfl (bF h4) ?_
      refine RL.val rfl (run_not rfl) ?_
      refine RL.val rfl (run_pickF (bF h4) (v := B _) rfl) ?_
      refine RL.nil ?_
      refine CW.cond rfl (fun h9 => ?_) (fun h9 => ?_)
      · refine CW.seq ?_
        refine CW.region ?_
        refine RL.val rfl (run_assign (v := B false) rfl) ?_
        refine RL.nil ?_
        refine CW.ret ?_
        refine outP1 Tryz.results53 (congrArg B ?_) hH6.below
        first | exact (nameR_no1 (by omega)).symm | exact (nameR_no2 (nt ‹_›)).symm | exact (nameR_yes hsz hlt ‹_› hf).symm | exact (nameR_no3 (i := k) (by omega) ‹_› (by have hlc := nt ‹(!letterB (byteAt s k)) = true›; rw [letterB, decide_eq_false_iff_not] at hlc; rw [goesB, decide_eq_false_iff_not]; omega)).symm
      · refine CW.skip ?_
        refine CW.seq ?_
        refine CW.seq ?_
        refine CW.region ?_
        refine RL.val rfl (run_assign (v := I 1) rfl) ?_
        refine RL.nil ?_
        refine CW.block ?_
        have hsz : 1 ≤ s.size ∧ s.size ≤ 16 := by omega
        have hlt : letterB (byteAt s 0) = true := nf ‹_›
        refine CW.loop (G := (Int)) (fun (k : Int) s' w' => (Fr [2, 3, 18, 19, 20, 21, 22, 23, 24, 25, 26, 27, 28, 29, 30, 31, 32, 33, 34, 35, 36, 37, 38, 39, 40, 41, 42, 43, 44, 45, 46] _ s') ∧ (Hp w w' _) ∧ (s' 3 = I k) ∧ (1 ≤ k) ∧ (k ≤ s.size) ∧ (∀ j : Int, 0 ≤ j → j < k → goesB (byteAt s j) = true)) (fun (k : Int) => (s.size - k).toNat) (1) ⟨Fr.refl _ _, hH6, rfl, (by omega), (by omega), fun j a b => by rw [show j = 0 by omega]; exact goes_letter hlt⟩ ?_
        rintro k sg10 w10 ⟨fr10, hH10, e3_10, h0, hk, hf⟩
        have e0_10 : sg10 0 = .string _ := (fr10 0 rfl).trans rfl
        refine CW.seq ?_
        refine CW.seq ?_
        refine CW.region ?_
        refine RL.val rfl (run_move e3_10) ?_
        refine RL.val rfl (run_move e0_10) ?_
        refine RL.val rfl (run_lenStr rfl Tryz.underlying9 rfl) ?_
        refine RL.val rfl (run_lss rfl rfl) ?_
        refine RL.nil ?_
        refine CW.condP rfl (fun h12 => ?_) (fun h12 => ?_)
        · refine CW.skip ?_
          refine CW.seq ?_
          refine CW.block ?_
          refine CW.seq ?_
          refine CW.region ?_
          refine RL.val rfl (run_move e0_10) ?_
          refine RL.val rfl (run_move e3_10) ?_
          refine RL.val rfl (run_idxS Tryz.underlying9 rfl rfl (by omega)) ?_
          refine RL.callP rfl hH10 (c_clearanceref02_letter _  _) (run_call1 Tryz.call88 rfl) ?_
          intro w13 hH14
          refine RL.val rfl (run_not rfl) ?_
          refine RL.val rfl (run_move (v := B _) rfl) ?_
          refine RL.split (dj := 29) rfl (fun h17 => ?_) (fun h17 => ?_)
          · refine RL.gT rfl (bR (c := true) h17) ?_
            refine RL.val rfl (run_move e0_10) ?_
            refine RL.gT rfl (bR (c := true) h17) ?_
            refine RL.val rfl (run_move e3_10) ?_
            refine RL.gT rfl (bR (c := true) h17) ?_
            refine RL.val rfl (run_idxS Tryz.underlying9 rfl rfl (by omega)) ?_
            refine RL.gT rfl (bR (c := true) h17) ?_
            refine RL.val rfl (run_lss rfl rfl) ?_
            refine RL.gT rfl (bR (c := true) h17) ?_
            refine RL.val rfl (run_move (v := B _) rfl) ?_
            refine RL.splitP (dj := 34) rfl (fun h19 => ?_) (fun h19 => ?_)
            · refine RL.gF rfl rfl (bT h19) rfl ?_
              refine RL.gF rfl rfl (bT h19) rfl ?_
              refine RL.gF rfl rfl (bT h19) rfl ?_
              refine RL.gF rfl rfl (bT h19) rfl ?_
              refine RL.gT rfl (bR (c := true) h17) ?_
              refine RL.val rfl (run_pickT (bT h19) (v := B true) rfl) ?_
              refine RL.val rfl (run_pickT (bR (c := true) h17) (v := B _) rfl) ?_
              refine RL.val rfl (run_move (v := B _) rfl) ?_
              refine RL.gT rfl rfl ?_
              refine RL.val rfl (run_move e0_10) ?_
              refine RL.gT rfl rfl ?_
              refine RL.val rfl (run_move e3_10) ?_
              refine RL.gT rfl rfl ?_
              refine RL.val rfl (run_idxS Tryz.underlying9 rfl rfl (by omega)) ?_
              refine RL.gT rfl rfl ?_
              refine RL.val rfl (run_neq rfl rfl) ?_
              refine RL.val rfl (run_pickT rfl (v := B _) rfl) ?_
              refine RL.nil ?_
              refine CW.condP rfl (fun h21 => ?_) (fun h21 => ?_)
              · refine CW.seq ?_
                refine CW.region ?_
                refine RL.val rfl (run_assign (v := B false) rfl) ?_
                refine RL.nil ?_
                refine CW.ret ?_
                refine outP1 Tryz.results53 (congrArg B ?_) hH14.below
                first | exact (nameR_no1 (by omega)).symm | exact (nameR_no2 (nt ‹_›)).symm | exact (nameR_yes hsz hlt ‹_› hf).symm | exact (nameR_no3 (i := k) (by omega) ‹_› (by have hlc := nt ‹(!letterB (byteAt s k)) = true›; rw [letterB, decide_eq_false_iff_not] at hlc; rw [goesB, decide_eq_false_iff_not]; omega)).symm
              · refine CW.skip ?_
                refine CW.region ?_
                refine RL.val rfl (run_move e3_10) ?_
                refine RL.val rfl (run_add rfl rfl (by omega)) ?_
                refine RL.val rfl (run_assign (v := I _) rfl) ?_
                refine RL.nil ?_
                refine ⟨k + 1, ?_, (((((((((((((((((((((((((((((fr10.u rfl).u rfl).u rfl).u rfl).u rfl).u rfl).u rfl).u rfl).u rfl).u rfl).u rfl).u rfl).u rfl).u rfl).u rfl).u rfl).u rfl).u rfl).u rfl).u rfl).u rfl).u rfl).u rfl).u rfl).u rfl).u rfl).u rfl).u rfl).u rfl).u rfl, hH14, (congrArg I (by first | rfl | omega)), ?_, ?_, ?_⟩
                · ((try dsimp only); omega)
                · omega
                · omega
                · exact fun j a b => if e : j = k then e ▸ (by first | exact goes_letter (nf ‹_›) | exact goes_letter ‹_› | (rw [goesB, decide_eq_true_eq]; omega)) else hf j a (by omega)
            · refine RL.gT rfl (bF h19) ?_
              refine RL.val rfl (run_move e0_10) ?_
              refine RL.gT rfl (bF h19) ?_
              refine RL.val rfl (run_move e3_10) ?_
              refine RL.gT rfl (bF h19) ?_
              refine RL.val rfl (run_idxS Tryz.underlying9 rfl rfl (by omega)) ?_
              refine RL.gT rfl (bF h19) ?_
              refine RL.val rfl (run_gtr rfl rfl) ?_
              refine RL.gT rfl (bR (c := true) h17) ?_
              refine RL.val rfl (run_pickF (bF h19) (v := B _) rfl) ?_
              refine RL.val rfl (run_pickT (bR (c := true) h17) (v := B _) rfl) ?_
              refine RL.val rfl (run_move (v := B _) rfl) ?_
              refine RL.splitP (dj := 41) rfl (fun h23 => ?_) (fun h23 => ?_)
              · refine RL.gT rfl (bT h23) ?_
                refine RL.val rfl (run_move e0_10) ?_
                refine RL.gT rfl (bT h23) ?_
                refine RL.val rfl (run_move e3_10) ?_
                refine RL.gT rfl (bT h23) ?_
                refine RL.val rfl (run_idxS Tryz.underlying9 rfl rfl (by omega)) ?_
                refine RL.gT rfl (bT h23) ?_
                refine RL.val rfl (run_neq rfl rfl) ?_
                refine RL.val rfl (run_pickT (bT h23) (v := B _) rfl) ?_
                refine RL.nil ?_
                refine CW.condP rfl (fun h25 => ?_) (fun h25 => ?_)
                · refine CW.seq ?_
                  refine CW.region ?_
                  refine RL.val rfl (run_assign (v := B false) rfl) ?_
                  refine RL.nil ?_
                  refine CW.ret ?_
                  refine outP1 Tryz.results53 (congrArg B ?_) hH14.below
                  first | exact (nameR_no1 (by omega)).symm | exact (nameR_no2 (nt ‹_›)).symm | exact (nameR_yes hsz hlt ‹_› hf).symm | exact (nameR_no3 (i := k) (by omega) ‹_› (by have hlc := nt ‹(!letterB (byteAt s k)) = true›; rw [letterB, decide_eq_false_iff_not] at hlc; rw [goesB, decide_eq_false_iff_not]; omega)).symm
                · refine CW.skip ?_
                  refine CW.region ?_
                  refine RL.val rfl (run_move e3_10) ?_
                  refine RL.val rfl (run_add rfl rfl (by omega)) ?_
                  refine RL.val rfl (run_assign (v := I _) rfl) ?_
                  refine RL.nil ?_
                  refine ⟨k + 1, ?_, (((((((((((((((((((((((((((((fr10.u rfl).u rfl).u rfl).u rfl).u rfl).u rfl).u rfl).u rfl).u rfl).u rfl).u rfl).u rfl).u rfl).u rfl).u rfl).u rfl).u rfl).u rfl).u rfl).u rfl).u rfl).u rfl).u rfl).u rfl).u rfl).u rfl).u rfl).u rfl).u rfl).u rfl, hH14, (congrArg I (by first | rfl | omega)), ?_, ?_, ?_⟩
                  · ((try dsimp only); omega)
                  · omega
                  · omega
                  · exact fun j a b => if e : j = k then e ▸ (by first | exact goes_letter (nf ‹_›) | exact goes_letter ‹_› | (rw [goesB, decide_eq_true_eq]; omega)) else hf j a (by omega)
              · refine RL.gF rfl rfl (bF h23) rfl ?_
                refine RL.gF rfl rfl (bF h23) rfl ?_
                refine RL.gF rfl rfl (bF h23) rfl ?_
                refine RL.gF rfl rfl (bF h23) rfl ?_
                refine RL.val rfl (run_pickF (bF h23) (v := B false) rfl) ?_
                refine RL.nil ?_
                refine CW.condF rfl ?_
                refine CW.skip ?_
                refine CW.region ?_
                refine RL.val rfl (run_move e3_10) ?_
                refine RL.val rfl (run_add rfl rfl (by omega)) ?_
                refine RL.val rfl (run_assign (v := I _) rfl) ?_
                refine RL.nil ?_
                refine ⟨k + 1, ?_, (((((((((((((((((((((((((((((fr10.u rfl).u rfl).u rfl).u rfl).u rfl).u rfl).u rfl).u rfl).u rfl).u rfl).u rfl).u rfl).u rfl).u rfl).u rfl).u rfl).u rfl).u rfl).u rfl).u rfl).u rfl).u rfl).u rfl).u rfl).u rfl).u rfl).u rfl).u rfl).u rfl).u rfl, hH14, (congrArg I (by first | rfl | omega)), ?_, ?_, ?_⟩
                · ((try dsimp only); omega)
                · omega
                · omega
                · exact fun j a b => if e : j = k then e ▸ (by first | exact goes_letter (nf ‹_›) | exact goes_letter ‹_› | (rw [goesB, decide_eq_true_eq]; omega)) else hf j a (by omega)
          · refine RL.gF rfl rfl (bR (c := false) h17) rfl ?_
            refine RL.gF rfl rfl (bR (c := false) h17) rfl ?_
            refine RL.gF rfl rfl (bR (c := false) h17) rfl ?_
            refine RL.gF rfl rfl (bR (c := false) h17) rfl ?_
            refine RL.gF rfl rfl (bR (c := false) h17) rfl ?_
            refine RL.gU rfl rfl rfl ?_
            refine RL.gU rfl rfl rfl ?_
            refine RL.gU rfl rfl rfl ?_
            refine RL.gU rfl rfl rfl ?_
            refine RL.gF rfl rfl (bR (c := false) h17) rfl ?_
            refine RL.val rfl (run_pickF (bR (c := false) h17) (v := B false) rfl) ?_
            refine RL.val rfl (run_move (v := B _) rfl) ?_
            refine RL.gF rfl rfl rfl rfl ?_
            refine RL.gF rfl rfl rfl rfl ?_
            refine RL.gF rfl rfl rfl rfl ?_
            refine RL.gF rfl rfl rfl rfl ?_
            refine RL.val rfl (run_pickF rfl (v := B false) rfl) ?_
            refine RL.nil ?_
            refine CW.condF rfl ?_
            refine CW.skip ?_
            refine CW.region ?_
            refine RL.val rfl (run_move e3_10) ?_
            refine RL.val rfl (run_add rfl rfl (by omega)) ?_
            refine RL.val rfl (run_assign (v := I _) rfl) ?_
            refine RL.nil ?_
            refine ⟨k + 1, ?_, (((((((((((((((((((((((((((((fr10.u rfl).u rfl).u rfl).u rfl).u rfl).u rfl).u rfl).u rfl).u rfl).u rfl).u rfl).u rfl).u rfl).u rfl).u rfl).u rfl).u rfl).u rfl).u rfl).u rfl).u rfl).u rfl).u rfl).u rfl).u rfl).u rfl).u rfl).u rfl).u rfl).u rfl, hH14, (congrArg I (by first | rfl | omega)), ?_, ?_, ?_⟩
            · ((try dsimp only); omega)
            · omega
            · omega
            · exact fun j a b => if e : j = k then e ▸ (by first | exact goes_letter (nf ‹_›) | exact goes_letter ‹_› | (rw [goesB, decide_eq_true_eq]; omega)) else hf j a (by omega)
        · refine CW.exit (id := 0) rfl ?_
          refine CW.seq ?_
          refine CW.region ?_
          refine RL.val rfl (run_assign (v := B true) rfl) ?_
          refine RL.nil ?_
          refine CW.ret ?_
          refine outP1 Tryz.results53 (congrArg B ?_) hH10.below
          first | exact (nameR_no1 (by omega)).symm | exact (nameR_no2 (nt ‹_›)).symm | exact (nameR_yes hsz hlt ‹_› hf).symm | exact (nameR_no3 (i := k) (by omega) ‹_› (by have hlc := nt ‹(!letterB (byteAt s k)) = true›; rw [letterB, decide_eq_false_iff_not] at hlc; rw [goesB, decide_eq_false_iff_not]; omega)).symm

theorem c_name_place (n : Int) (f : FuncId) (cs : List Value) (P : Int → Bool) (hn : 0 ≤ n ∧ n ≤ 9223372036854775807) (w : World) (hf : ∀ args w, (callFunc f args).run Tryz.prog w = .ok (.enter f args) w) (go : ∀ i w', Below w.heap.size w w' → 0 ≤ i → i < n → Calls Tryz.prog f (I i :: cs).toArray w' (Pure (B (P i)) w')) : Calls Tryz.prog 91 #[I 0, I n, .func (.func f) #[] cs.toArray] w (Pure (I (findV P n)) w) := by
  refine enter Tryz.func91 rfl Tryz.ntmps91 rfl ?_
  have hH := Hp.start w
  refine CW.seq ?_
  refine CW.region ?_
  refine RL.val rfl (run_assign (v := I 0) rfl) ?_
  refine RL.nil ?_
  refine CW.seq ?_
  refine CW.seq ?_
  refine CW.region ?_
  refine RL.val rfl (run_move (v := I _) rfl) ?_
  refine RL.val rfl (run_assign (v := I _) rfl) ?_
  refine RL.nil ?_
  refine CW.block ?_
  refine CW.loop (G := (Int)) (fun (k : Int) s' w' => (Fr [6, 7, 9, 10, 11, 12, 13, 14, 15, 16, 17] _ s') ∧ (Hp w w' _) ∧ (s' 7 = I k) ∧ (0 ≤ k) ∧ (k ≤ n) ∧ (∀ j : Int, 0 ≤ j → j < k → P j = false)) (fun (k : Int) => (n - k).toNat) (0) ⟨Fr.refl _ _, hH, rfl, (by omega), (by omega), fun j a b => absurd b (by omega)⟩ ?_
  rintro k sg1 w1 ⟨fr1, hH1, e7_1, h0, hk, hg⟩
  have e1_1 : sg1 1 = I _ := (fr1 1 rfl).trans rfl
  have e2_1 : sg1 2 = .func _ _ _ := (fr1 2 rfl).trans rfl
  refine CW.seq ?_
  refine CW.seq ?_
  refine CW.region ?_
  refine RL.val rfl (run_move e7_1) ?_
  refine RL.val rfl (run_move e1_1) ?_
  refine RL.val rfl (run_lss rfl rfl) ?_
  refine RL.nil ?_
  refine CW.condP rfl (fun h3 => ?_) (fun h3 => ?_)
  · refine CW.skip ?_
    refine CW.seq ?_
    refine CW.block ?_
    refine CW.seq ?_
    refine CW.region ?_
    refine RL.val rfl (run_move e2_1) ?_
    refine RL.val rfl (run_move e7_1) ?_
    refine RL.callP rfl hH1 (go _ _ hH1.below (by omega) (by omega)) (run_callC1 hf (cs := cs) rfl rfl) ?_
    intro w4 hH5
    refine RL.nil ?_
    refine CW.cond rfl (fun h7 => ?_) (fun h7 => ?_)
    · refine CW.seq ?_
      refine CW.region ?_
      refine RL.val rfl (run_move e7_1) ?_
      refine RL.val rfl (run_assign (v := I _) rfl) ?_
      refine RL.nil ?_
      refine CW.ret ?_
      refine outP1 Tryz.results91 (congrArg I ?_) hH5.below
      first | exact (find_yes h0 ‹_› ‹_› hg).symm | exact (find_no fun j a b => hg j a (by omega)).symm
    · refine CW.skip ?_
      refine CW.region ?_
      refine RL.val rfl (run_move e7_1) ?_
      refine RL.val rfl (run_add rfl rfl (by omega)) ?_
      refine RL.val rfl (run_assign (v := I _) rfl) ?_
      refine RL.nil ?_
      refine ⟨k + 1, ?_, ((((((((fr1.u rfl).u rfl).u rfl).u rfl).u rfl).u rfl).u rfl).u rfl).u rfl, hH5, (congrArg I (by first | rfl | omega)), ?_, ?_, ?_⟩
      · ((try dsimp only); omega)
      · omega
      · omega
      · exact fun j a b => if e : j = k then e ▸ ‹P k = false› else hg j a (by omega)
  · refine CW.exit (id := 0) rfl ?_
    refine CW.seq ?_
    refine CW.region ?_
    refine RL.val rfl (run_assign (v := I (-1)) rfl) ?_
    refine RL.nil ?_
    refine CW.ret ?_
    refine outP1 Tryz.results91 (congrArg I ?_) hH1.below
    first | exact (find_yes h0 ‹_› ‹_› hg).symm | exact (find_no fun j a b => hg j a (by omega)).symm

theorem c_name_Find_1 (b c : Nat) (v : Value) (l : List Tx) (s : Tx) (i : Int) (hi : 0 ≤ i ∧ i < l.length) (w : World) (hs : Sl w v 1 l.length (txL l)) (hb : w.heap[b]? = some (.cells #[v] 39 (0, 0))) (hc : w.heap[c]? = some (.cells #[S s] 9 (0, 0))) : Calls Tryz.prog 130 #[I i, .pointer (some ⟨b, 0, none⟩), .pointer (some ⟨c, 0, none⟩)] w (Pure (B (decide (l.getD i.toNat tx0 = s))) w) := by
  have hm := hs.small
  unfold maxLen at hm
  refine enter Tryz.func130 rfl Tryz.ntmps130 rfl ?_
  have hH := Hp.start w
  refine CW.seq ?_
  refine CW.region ?_
  refine RL.val rfl (run_assign (v := B false) rfl) ?_
  refine RL.nil ?_
  refine CW.seq ?_
  refine CW.regionD (by kernel_rfl) hH ?_
  intro w1 hH2
  refine AN.take 0 rfl rfl (by kernel_rfl) (by kernel_rfl) (by kernel_rfl) (hH2.sub (List.Sublist.refl _)) (fun w hS => run_ld Tryz.underlying39 rfl rfl (hS.extCell hb rfl)) ?_
  refine AN.take 1 rfl rfl (by kernel_rfl) (by kernel_rfl) (by kernel_rfl) (hH2.sub (List.Sublist.refl _)) (fun w hS => run_move (v := I _) rfl) ?_
  refine AN.take 2 rfl rfl (by kernel_rfl) (by kernel_rfl) (by kernel_rfl) (hH2.sub (List.Sublist.refl _)) (fun w hS => run_indexAddrS (hs.hp hS) Tryz.underlying39 Tryz.sizeOf9 rfl rfl (by omega)) ?_
  refine AN.take 3 rfl rfl (by kernel_rfl) (by kernel_rfl) (by kernel_rfl) (hH2.sub (List.Sublist.refl _)) (fun w hS => run_ld Tryz.underlying9 rfl rfl ((hs.hp hS).cell _ _ (txL_at (by omega)))) ?_
  refine AN.take 4 rfl rfl (by kernel_rfl) (by kernel_rfl) (by kernel_rfl) (hH2.sub (List.Sublist.refl _)) (fun w hS => run_ld Tryz.underlying9 rfl rfl (hS.extCell hc (v := .string _) rfl)) ?_
  refine AN.take 5 rfl rfl (by kernel_rfl) (by kernel_rfl) (by kernel_rfl) (hH2.sub (List.Sublist.refl _)) (fun w hS => run_eqlS rfl rfl) ?_
  refine AN.take 6 rfl rfl (by kernel_rfl) (by kernel_rfl) (by kernel_rfl) (hH2.sub (List.Sublist.refl _)) (fun w hS => run_assign (v := B _) rfl) ?_
  refine AN.done (by kernel_rfl) ?_
  refine CW.ret ?_
  refine outP1 Tryz.results130 (congrArg B ?_) hH2.below
  rfl

theorem c_name_Find (v : Value) (l : List Tx) (s : Tx) (w : World) (hs : Sl w v 1 l.length (txL l)) : Calls Tryz.prog 111 #[v, S s] w (Pure (I (nfind l s)) w) := by
  have hm := hs.small
  unfold maxLen at hm
  refine enter Tryz.func111 rfl Tryz.ntmps111 rfl ?_
  have hH := Hp.start w
  refine CW.seq ?_
  refine CW.region ?_
  refine RL.new rfl hH (f := fun b => (.pointer (some ⟨b, 0, none⟩))) (run_box (by conv => lhs; whnf)) ?_
  intro b3 w1 hH2
  rw [(one_sl hs).2] at hH2
  refine RL.new rfl hH2 (f := fun b => (.pointer (some ⟨b, 0, none⟩))) (run_box (v := .string _) rfl) ?_
  intro b6 w4 hH5
  refine RL.val rfl (run_assign (v := I 0) rfl) ?_
  refine RL.nil ?_
  refine CW.seq ?_
  refine CW.region ?_
  refine RL.val rfl (run_ld Tryz.underlying39 rfl rfl (hH5.cell (i := 1) rfl rfl)) ?_
  refine RL.val rfl (run_lenSl (hs.hp hH5) rfl Tryz.underlying39 rfl) ?_
  refine RL.val rfl (run_mkF2 (by conv => lhs; whnf) (by conv => lhs; whnf)) ?_
  refine RL.callP rfl hH5 (c_name_place _ 130 [.pointer (some ⟨b3, 0, none⟩), .pointer (some ⟨b6, 0, none⟩)] (fun i => decide (l.getD i.toNat tx0 = s)) (by omega) _ Tryz.call130 (fun i w h h0 h1 => c_name_Find_1 b3 b6 v l s i ⟨h0, h1⟩ w ((hs.hp hH5).below h) (keep h (hH5.blk (i := 1) rfl)) (keep h (hH5.blk (i := 0) rfl)))) (run_call3 Tryz.call91 (show _ = I 0 from rfl) rfl rfl) ?_
  intro w7 hH8
  refine RL.val rfl (run_assign (v := I _) rfl) ?_
  refine RL.nil ?_
  refine CW.ret ?_
  refine outP1 Tryz.results111 (congrArg I ?_) hH8.below
  rfl

theorem c_name_Twice_1 (b : Nat) (v : Value) (l : List Tx) (i : Int) (hi : 0 ≤ i ∧ i < l.length) (w : World) (hs : Sl w v 1 l.length (txL l)) (hb : w.heap[b]? = some (.cells #[v] 39 (0, 0))) : Calls Tryz.prog 110 #[I i, .pointer (some ⟨b, 0, none⟩)] w (Pure (B (decide (nfind l (l.getD i.toNat tx0) < i))) w) := by
  have hm := hs.small
  unfold maxLen at hm
  refine enter Tryz.func110 rfl Tryz.ntmps110 rfl ?_
  have hH := Hp.start w
  refine CW.seq ?_
  refine CW.region ?_
  refine RL.val rfl (run_assign (v := B false) rfl) ?_
  refine RL.nil ?_
  refine CW.seq ?_
  refine CW.regionD (by kernel_rfl) hH ?_
  intro w1 hH2
  refine AN.take 0 rfl rfl (by kernel_rfl) (by kernel_rfl) (by kernel_rfl) (hH2.sub (List.Sublist.refl _)) (fun w hS => run_ld Tryz.underlying39 rfl rfl (hS.extCell hb rfl)) ?_
  refine AN.take 1 rfl rfl (by kernel_rfl) (by kernel_rfl) (by kernel_rfl) (hH2.sub (List.Sublist.refl _)) (fun w hS => run_move (v := I _) rfl) ?_
  refine AN.take 3 rfl rfl (by kernel_rfl) (by kernel_rfl) (by kernel_rfl) (hH2.sub (List.Sublist.refl _)) (fun w hS => run_ld Tryz.underlying39 rfl rfl (hS.extCell hb rfl)) ?_
  refine AN.take 4 rfl rfl (by kernel_rfl) (by kernel_rfl) (by kernel_rfl) (hH2.sub (List.Sublist.refl _)) (fun w hS => run_move (v := I _) rfl) ?_
  refine AN.take 5 rfl rfl (by kernel_rfl) (by kernel_rfl) (by kernel_rfl) (hH2.sub (List.Sublist.refl _)) (fun w hS => run_indexAddrS (hs.hp hS) Tryz.underlying39 Tryz.sizeOf9 rfl rfl (by omega)) ?_
  refine AN.take 6 rfl rfl (by kernel_rfl) (by kernel_rfl) (by kernel_rfl) (hH2.sub (List.Sublist.refl _)) (fun w hS => run_ld Tryz.underlying9 rfl rfl ((hs.hp hS).cell _ _ (txL_at (by omega)))) ?_
  refine AN.one 2 (by kernel_rfl) ?_
  refine AO.read rfl gnone rfl hH2 (List.Sublist.refl _) (run_cut (hs.hp hH2) Tryz.underlying39 Tryz.sizeOf9 rfl rfl (by omega)) ?_
  refine AN.one 7 (by kernel_rfl) ?_
  refine AO.callP rfl gnone rfl hH2 (List.Sublist.refl _) (c_name_Find _ _ _  _ ((hs.hp hH2).cutT (by omega))) (run_call2 Tryz.call111 rfl rfl) ?_
  intro w5 hH6
  refine AN.take 8 rfl rfl (by kernel_rfl) (by kernel_rfl) (by kernel_rfl) (hH6.sub (List.Sublist.refl _)) (fun w hS => run_geq rfl rfl) ?_
  refine AN.take 9 rfl rfl (by kernel_rfl) (by kernel_rfl) (by kernel_rfl) (hH6.sub (List.Sublist.refl _)) (fun w hS => run_assign (v := B _) rfl) ?_
  refine AN.done (by kernel_rfl) ?_
  refine CW.ret ?_
  refine outP1 Tryz.results110 (congrArg B ?_) hH6.below
  exact tx_ahead hi.1 hi.2

theorem c_name_Twice (v : Value) (l : List Tx) (w : World) (hs : Sl w v 1 l.length (txL l)) : Calls Tryz.prog 81 #[v] w (Pure (I (twice l)) w) := by
  have hm := hs.small
  unfold maxLen at hm
  refine enter Tryz.func81 rfl Tryz.ntmps81 rfl ?_
  have hH := Hp.start w
  refine CW.seq ?_
  refine CW.region ?_
  refine RL.new rfl hH (f := fun b => (.pointer (some ⟨b, 0, none⟩))) (run_box (by conv => lhs; whnf)) ?_
  intro b3 w1 hH2
  rw [(one_sl hs).2] at hH2
  refine RL.val rfl (run_assign (v := I 0) rfl) ?_
  refine RL.nil ?_
  refine CW.seq ?_
  refine CW.region ?_
  refine RL.val rfl (run_ld Tryz.underlying39 rfl rfl (hH2.cell (i := 0) rfl rfl)) ?_
  refine RL.val rfl (run_lenSl (hs.hp hH2) rfl Tryz.underlying39 rfl) ?_
  refine RL.val rfl (run_mkF1 (by conv => lhs; whnf)) ?_
  refine RL.callP rfl hH2 (c_name_place _ 110 [.pointer (some ⟨b3, 0, none⟩)] (fun i => decide (nfind l (l.getD i.toNat tx0) < i)) (by omega) _ Tryz.call110 (fun i w h h0 h1 => c_name_Twice_1 b3 v l i ⟨h0, h1⟩ w ((hs.hp hH2).below h) (keep h (hH2.blk (i := 0) rfl)))) (run_call3 Tryz.call91 (show _ = I 0 from rfl) rfl rfl) ?_
  intro w4 hH5
  refine RL.val rfl (run_assign (v := I _) rfl) ?_
  refine RL.nil ?_
  refine CW.ret ?_
  refine outP1 Tryz.results81 (congrArg I ?_) hH5.below
  rfl

theorem c_name_Same_1 (b c : Nat) (v u : Value) (l m : List Tx) (i : Int) (hi : 0 ≤ i ∧ i < l.length) (w : World) (hlm : l.length = m.length) (hs : Sl w v 1 l.length (txL l)) (ht : Sl w u 1 m.length (txL m)) (hb : w.heap[b]? = some (.cells #[v] 39 (0, 0))) (hc : w.heap[c]? = some (.cells #[u] 39 (0, 0))) : Calls Tryz.prog 92 #[I i, .pointer (some ⟨b, 0, none⟩), .pointer (some ⟨c, 0, none⟩)] w (Pure (B (decide (l.getD i.toNat tx0 ≠ m.getD i.toNat tx0))) w) := by
  have hm := hs.small
  unfold maxLen at hm
  refine enter Tryz.func92 rfl Tryz.ntmps92 rfl ?_
  have hH := Hp.start w
  refine CW.seq ?_
  refine CW.region ?_
  refine RL.val rfl (run_assign (v := B false) rfl) ?_
  refine RL.nil ?_
  refine CW.seq ?_
  refine CW.regionD (by kernel_rfl) hH ?_
  intro w1 hH2
  refine AN.take 0 rfl rfl (by kernel_rfl) (by kernel_rfl) (by kernel_rfl) (hH2.sub (List.Sublist.refl _)) (fun w hS => run_ld Tryz.underlying39 rfl rfl (hS.extCell hb rfl)) ?_
  refine AN.take 1 rfl rfl (by kernel_rfl) (by kernel_rfl) (by kernel_rfl) (hH2.sub (List.Sublist.refl _)) (fun w hS => run_move (v := I _) rfl) ?_
  refine AN.take 2 rfl rfl (by kernel_rfl) (by kernel_rfl) (by kernel_rfl) (hH2.sub (List.Sublist.refl _)) (fun w hS => run_indexAddrS (hs.hp hS) Tryz.underlying39 Tryz.sizeOf9 rfl rfl (by omega)) ?_
  refine AN.take 3 rfl rfl (by kernel_rfl) (by kernel_rfl) (by kernel_rfl) (hH2.sub (List.Sublist.refl _)) (fun w hS => run_ld Tryz.underlying9 rfl rfl ((hs.hp hS).cell _ _ (txL_at (by omega)))) ?_
  refine AN.take 4 rfl rfl (by kernel_rfl) (by kernel_rfl) (by kernel_rfl) (hH2.sub (List.Sublist.refl _)) (fun w hS => run_ld Tryz.underlying39 rfl rfl (hS.extCell hc rfl)) ?_
  refine AN.take 5 rfl rfl (by kernel_rfl) (by kernel_rfl) (by kernel_rfl) (hH2.sub (List.Sublist.refl _)) (fun w hS => run_move (v := I _) rfl) ?_
  refine AN.take 6 rfl rfl (by kernel_rfl) (by kernel_rfl) (by kernel_rfl) (hH2.sub (List.Sublist.refl _)) (fun w hS => run_indexAddrS (ht.hp hS) Tryz.underlying39 Tryz.sizeOf9 rfl rfl (by omega)) ?_
  refine AN.take 7 rfl rfl (by kernel_rfl) (by kernel_rfl) (by kernel_rfl) (hH2.sub (List.Sublist.refl _)) (fun w hS => run_ld Tryz.underlying9 rfl rfl ((ht.hp hS).cell _ _ (txL_at (by omega)))) ?_
  refine AN.take 8 rfl rfl (by kernel_rfl) (by kernel_rfl) (by kernel_rfl) (hH2.sub (List.Sublist.refl _)) (fun w hS => run_neqS rfl rfl) ?_
  refine AN.take 9 rfl rfl (by kernel_rfl) (by kernel_rfl) (by kernel_rfl) (hH2.sub (List.Sublist.refl _)) (fun w hS => run_assign (v := B _) rfl) ?_
  refine AN.done (by kernel_rfl) ?_
  refine CW.ret ?_
  refine outP1 Tryz.results92 (congrArg B ?_) hH2.below
  rfl

theorem c_name_Same (v u : Value) (l m : List Tx) (w : World) (hs : Sl w v 1 l.length (txL l)) (ht : Sl w u 1 m.length (txL m)) : Calls Tryz.prog 57 #[v, u] w (Pure (B (decide (l = m))) w) := by
  have hm := hs.small
  unfold maxLen at hm
  refine enter Tryz.func57 rfl Tryz.ntmps57 rfl ?_
  have hH := Hp.start w
  refine CW.seq ?_
  refine CW.region ?_
  refine RL.new rfl hH (f := fun b => (.pointer (some ⟨b, 0, none⟩))) (run_box (by conv => lhs; whnf)) ?_
  intro b3 w1 hH2
  rw [(one_sl hs).2] at hH2
  refine RL.new rfl hH2 (f := fun b => (.pointer (some ⟨b, 0, none⟩))) (run_box (by conv => lhs; whnf)) ?_
  intro b6 w4 hH5
  rw [(one_sl ht).2] at hH5
  refine RL.val rfl (run_assign (v := B false) rfl) ?_
  refine RL.nil ?_
  refine CW.seq ?_
  refine CW.region ?_
  refine RL.val rfl (run_ld Tryz.underlying39 rfl rfl (hH5.cell (i := 1) rfl rfl)) ?_
  refine RL.val rfl (run_lenSl (hs.hp hH5) rfl Tryz.underlying39 rfl) ?_
  refine RL.val rfl (run_ld Tryz.underlying39 rfl rfl (hH5.cell (i := 0) rfl rfl)) ?_
  refine RL.val rfl (run_lenSl (ht.hp hH5) rfl Tryz.underlying39 rfl) ?_
  refine RL.val rfl (run_eql rfl rfl) ?_
  refine RL.val rfl (run_move (v := B _) rfl) ?_
  refine RL.splitP (dj := 10) rfl (fun h8 => ?_) (fun h8 => ?_)
  · refine RL.gT rfl (bT h8) ?_
    refine RL.val rfl (run_ld Tryz.underlying39 rfl rfl (hH5.cell (i := 1) rfl rfl)) ?_
    refine RL.gT rfl (bT h8) ?_
    refine RL.val rfl (run_lenSl (hs.hp hH5) rfl Tryz.underlying39 rfl) ?_
    refine RL.gT rfl (bT h8) ?_
    refine RL.val rfl (run_mkF2 (by conv => lhs; whnf) (by conv => lhs; whnf)) ?_
    refine RL.gT rfl (bT h8) ?_
    refine RL.callP rfl hH5 (c_name_place _ 92 [.pointer (some ⟨b3, 0, none⟩), .pointer (some ⟨b6, 0, none⟩)] (fun i => decide (l.getD i.toNat tx0 ≠ m.getD i.toNat tx0)) (by omega) _ Tryz.call92 (fun i w h h0 h1 => c_name_Same_1 b3 b6 v u l m i ⟨h0, h1⟩ w (by omega) ((hs.hp hH5).below h) ((ht.hp hH5).below h) (keep h (hH5.blk (i := 1) rfl)) (keep h (hH5.blk (i := 0) rfl)))) (run_call3 Tryz.call91 (show _ = I 0 from rfl) rfl rfl) ?_
    intro w9 hH10
    refine RL.gT rfl (bT h8) ?_
    refine RL.val rfl (run_lss rfl rfl) ?_
    refine RL.val rfl (run_pickT (bT h8) (v := B _) rfl) ?_
    refine RL.val rfl (run_assign (v := B _) rfl) ?_
    refine RL.nil ?_
    refine CW.ret ?_
    refine outP1 Tryz.results57 (congrArg B ?_) hH10.below
    first | exact (decide_eq_false fun e => ‹¬ _› (by rw [e])).symm | exact same_place (by omega)
  · refine RL.gF rfl rfl (bF h8) rfl ?_
    refine RL.gF rfl rfl (bF h8) rfl ?_
    refine RL.gF rfl rfl (bF h8) rfl ?_
    refine RL.gF rfl rfl (bF h8) rfl ?_
    refine RL.gF rfl rfl (bF h8) rfl ?_
    refine RL.val rfl (run_pickF (bF h8) (v := B false) rfl) ?_
    refine RL.val rfl (run_assign (v := B _) rfl) ?_
    refine RL.nil ?_
    refine CW.ret ?_
    refine outP1 Tryz.results57 (congrArg B ?_) hH5.below
    first | exact (decide_eq_false fun e => ‹¬ _› (by rw [e])).symm | exact same_place (by omega)

theorem c_clearanceref02_Find (v : Value) (l : List Tx) (s : Tx) (w : World) (hs : Sl w v 1 l.length (txL l)) : Calls Tryz.prog 87 #[v, S s] w (Pure (I (nfind l s)) w) := by
  have hm := hs.small
  unfold maxLen at hm
  refine enter Tryz.func87 rfl Tryz.ntmps87 rfl ?_
  have hH := Hp.start w
  refine CW.seq ?_
  refine CW.region ?_
  refine RL.val rfl (run_assign (v := I 0) rfl) ?_
  refine RL.nil ?_
  refine CW.seq ?_
  refine CW.seq ?_
  refine CW.region ?_
  refine RL.val rfl (run_assign (v := I 0) rfl) ?_
  refine RL.nil ?_
  refine CW.block ?_
  refine CW.loop (G := (Int)) (fun (k : Int) s' w' => (Fr [4, 5, 6, 7, 8, 9, 10, 11, 12, 13, 14, 15, 16, 17, 18] _ s') ∧ (Hp w w' _) ∧ (s' 5 = I k) ∧ (0 ≤ k) ∧ (k ≤ l.length) ∧ (∀ j : Int, 0 ≤ j → j < k → decide (l.getD j.toNat tx0 = s) = false)) (fun (k : Int) => (l.length - k).toNat) (0) ⟨Fr.refl _ _, hH, rfl, (by omega), (by omega), fun j a b => absurd b (by omega)⟩ ?_
  rintro k sg1 w1 ⟨fr1, hH1, e5_1, h0, hk, hg⟩
  have e0_1 := (fr1 0 rfl).trans (by conv => lhs; whnf)
  have e1_1 : sg1 1 = .string _ := (fr1 1 rfl).trans rfl
  refine CW.seq ?_
  refine CW.seq ?_
  refine CW.region ?_
  refine RL.val rfl (run_move e5_1) ?_
  refine RL.val rfl (run_move e0_1) ?_
  refine RL.val rfl (run_lenSl (hs.hp hH1) rfl Tryz.underlying39 rfl) ?_
  refine RL.val rfl (run_lss rfl rfl) ?_
  refine RL.nil ?_
  refine CW.condP rfl (fun h3 => ?_) (fun h3 => ?_)
  · refine CW.skip ?_
    refine CW.seq ?_
    refine CW.block ?_
    refine CW.seq ?_
    refine CW.region ?_
    refine RL.val rfl (run_move e0_1) ?_
    refine RL.val rfl (run_move e5_1) ?_
    refine RL.val rfl (run_indexAddrS (hs.hp hH1) Tryz.underlying39 Tryz.sizeOf9 rfl rfl (by omega)) ?_
    refine RL.val rfl (run_ld Tryz.underlying9 rfl rfl ((hs.hp hH1).cell _ _ (txL_at (by omega)))) ?_
    refine RL.val rfl (run_move e1_1) ?_
    refine RL.val rfl (run_eqlS rfl rfl) ?_
    refine RL.nil ?_
    refine CW.condP rfl (fun h5 => ?_) (fun h5 => ?_)
    · refine CW.seq ?_
      refine CW.region ?_
      refine RL.val rfl (run_move e5_1) ?_
      refine RL.val rfl (run_assign (v := I _) rfl) ?_
      refine RL.nil ?_
      refine CW.ret ?_
      refine outP1 Tryz.results87 (congrArg I ?_) hH1.below
      first | exact (find_yes h0 ‹_› (decide_eq_true ‹_›) hg).symm | exact (find_no fun j a b => hg j a (by omega)).symm
    · refine CW.skip ?_
      refine CW.region ?_
      refine RL.val rfl (run_move e5_1) ?_
      refine RL.val rfl (run_add rfl rfl (by omega)) ?_
      refine RL.val rfl (run_assign (v := I _) rfl) ?_
      refine RL.nil ?_
      refine ⟨k + 1, ?_, ((((((((((((fr1.u rfl).u rfl).u rfl).u rfl).u rfl).u rfl).u rfl).u rfl).u rfl).u rfl).u rfl).u rfl).u rfl, hH1, (congrArg I (by first | rfl | omega)), ?_, ?_, ?_⟩
      · ((try dsimp only); omega)
      · omega
      · omega
      · exact fun j a b => if e : j = k then e ▸ decide_eq_false ‹_› else hg j a (by omega)
  · refine CW.exit (id := 0) rfl ?_
    refine CW.seq ?_
    refine CW.region ?_
    refine RL.val rfl (run_assign (v := I (-1)) rfl) ?_
    refine RL.nil ?_
    refine CW.ret ?_
    refine outP1 Tryz.results87 (congrArg I ?_) hH1.below
    first | exact (find_yes h0 ‹_› (decide_eq_true ‹_›) hg).symm | exact (find_no fun j a b => hg j a (by omega)).symm

theorem c_clearanceref02_Twice (v : Value) (l : List Tx) (w : World) (hs : Sl w v 1 l.length (txL l)) : Calls Tryz.prog 52 #[v] w (Pure (I (twice l)) w) := by
  have hm := hs.small
  unfold maxLen at hm
  refine enter Tryz.func52 rfl Tryz.ntmps52 rfl ?_
  have hH := Hp.start w
  refine CW.seq ?_
  refine CW.region ?_
  refine RL.val rfl (run_assign (v := I 0) rfl) ?_
  refine RL.nil ?_
  refine CW.seq ?_
  refine CW.seq ?_
  refine CW.region ?_
  refine RL.val rfl (run_assign (v := I 0) rfl) ?_
  refine RL.nil ?_
  refine CW.block ?_
  refine CW.loop (G := (Int)) (fun (k : Int) s' w' => (Fr [2, 3, 4, 5, 6, 7, 8, 9, 10, 11, 12, 13, 14, 15, 16, 17, 18] _ s') ∧ (Hp w w' _) ∧ (s' 3 = I k) ∧ (0 ≤ k) ∧ (k ≤ l.length) ∧ (∀ j : Int, 0 ≤ j → j < k → decide (nfind l (l.getD j.toNat tx0) < j) = false)) (fun (k : Int) => (l.length - k).toNat) (0) ⟨Fr.refl _ _, hH, rfl, (by omega), (by omega), fun j a b => absurd b (by omega)⟩ ?_
  rintro k sg1 w1 ⟨fr1, hH1, e3_1, h0, hk, hg⟩
  have e0_1 := (fr1 0 rfl).trans (by conv => lhs; whnf)
  refine CW.seq ?_
  refine CW.seq ?_
  refine CW.region ?_
  refine RL.val rfl (run_move e3_1) ?_
  refine RL.val rfl (run_move e0_1) ?_
  refine RL.val rfl (run_lenSl (hs.hp hH1) rfl Tryz.underlying39 rfl) ?_
  refine RL.val rfl (run_lss rfl rfl) ?_
  refine RL.nil ?_
  refine CW.condP rfl (fun h3 => ?_) (fun h3 => ?_)
  · refine CW.skip ?_
    refine CW.seq ?_
    refine CW.block ?_
    refine CW.seq ?_
    refine CW.region ?_
    refine RL.val rfl (run_move e0_1) ?_
    refine RL.val rfl (run_move e0_1) ?_
    refine RL.val rfl (run_move e3_1) ?_
    refine RL.val rfl (run_indexAddrS (hs.hp hH1) Tryz.underlying39 Tryz.sizeOf9 rfl rfl (by omega)) ?_
    refine RL.val rfl (run_ld Tryz.underlying9 rfl rfl ((hs.hp hH1).cell _ _ (txL_at (by omega)))) ?_
    refine RL.callP rfl hH1 (c_clearanceref02_Find _ _ _  _ (hs.hp hH1)) (run_call2 Tryz.call87 rfl rfl) ?_
    intro w4 hH5
    refine RL.val rfl (run_move e3_1) ?_
    refine RL.val rfl (run_lss rfl rfl) ?_
    refine RL.nil ?_
    refine CW.condP rfl (fun h7 => ?_) (fun h7 => ?_)
    · refine CW.seq ?_
      refine CW.region ?_
      refine RL.val rfl (run_move e3_1) ?_
      refine RL.val rfl (run_assign (v := I _) rfl) ?_
      refine RL.nil ?_
      refine CW.ret ?_
      refine outP1 Tryz.results52 (congrArg I ?_) hH5.below
      first | exact (find_yes h0 ‹_› (decide_eq_true ‹_›) hg).symm | exact (find_no fun j a b => hg j a (by omega)).symm
    · refine CW.skip ?_
      refine CW.region ?_
      refine RL.val rfl (run_move e3_1) ?_
      refine RL.val rfl (run_add rfl rfl (by omega)) ?_
      refine RL.val rfl (run_assign (v := I _) rfl) ?_
      refine RL.nil ?_
      refine ⟨k + 1, ?_, ((((((((((((((fr1.u rfl).u rfl).u rfl).u rfl).u rfl).u rfl).u rfl).u rfl).u rfl).u rfl).u rfl).u rfl).u rfl).u rfl).u rfl, hH5, (congrArg I (by first | rfl | omega)), ?_, ?_, ?_⟩
      · ((try dsimp only); omega)
      · omega
      · omega
      · exact fun j a b => if e : j = k then e ▸ decide_eq_false ‹_› else hg j a (by omega)
  · refine CW.exit (id := 0) rfl ?_
    refine CW.seq ?_
    refine CW.region ?_
    refine RL.val rfl (run_assign (v := I (-1)) rfl) ?_
    refine RL.nil ?_
    refine CW.ret ?_
    refine outP1 Tryz.results52 (congrArg I ?_) hH1.below
    first | exact (find_yes h0 ‹_› (decide_eq_true ‹_›) hg).symm | exact (find_no fun j a b => hg j a (by omega)).symm

theorem c_clearanceref02_Same (v u : Value) (l m : List Tx) (w : World) (hs : Sl w v 1 l.length (txL l)) (ht : Sl w u 1 m.length (txL m)) : Calls Tryz.prog 29 #[v, u] w (Pure (B (decide (l = m))) w) := by
  have hm := hs.small
  unfold maxLen at hm
  refine enter Tryz.func29 rfl Tryz.ntmps29 rfl ?_
  have hH := Hp.start w
  refine CW.seq ?_
  refine CW.region ?_
  refine RL.val rfl (run_assign (v := B false) rfl) ?_
  refine RL.nil ?_
  refine CW.seq ?_
  refine CW.seq ?_
  refine CW.region ?_
  refine RL.val rfl (run_move (by conv => lhs; whnf)) ?_
  refine RL.val rfl (run_lenSl (hs.hp hH) rfl Tryz.underlying39 rfl) ?_
  refine RL.val rfl (run_move (by conv => lhs; whnf)) ?_
  refine RL.val rfl (run_lenSl (ht.hp hH) rfl Tryz.underlying39 rfl) ?_
  refine RL.val rfl (run_neq rfl rfl) ?_
  refine RL.nil ?_
  refine CW.condP rfl (fun h2 => ?_) (fun h2 => ?_)
  · refine CW.seq ?_
    refine CW.region ?_
    refine RL.val rfl (run_assign (v := B false) rfl) ?_
    refine RL.nil ?_
    refine CW.ret ?_
    refine outP1 Tryz.results29 (congrArg B ?_) hH.below
    first | exact (same_no hlm h0 ‹_› ‹_›).symm | exact (same_yes hlm fun j a b => hg j a (by omega)).symm | exact (decide_eq_false fun e => (show ¬ l.length = m.length by omega) (by rw [e])).symm
  · refine CW.skip ?_
    refine CW.seq ?_
    refine CW.seq ?_
    refine CW.region ?_
    refine RL.val rfl (run_assign (v := I 0) rfl) ?_
    refine RL.nil ?_
    refine CW.block ?_
    have hlm : l.length = m.length := by omega
    refine CW.loop (G := (Int)) (fun (k : Int) s' w' => (Fr [4, 5, 11, 12, 13, 14, 15, 16, 17, 18, 19, 20, 21, 22, 23, 24, 25] _ s') ∧ (Hp w w' _) ∧ (s' 5 = I k) ∧ (0 ≤ k) ∧ (k ≤ l.length) ∧ (∀ j : Int, 0 ≤ j → j < k → l.getD j.toNat tx0 = m.getD j.toNat tx0)) (fun (k : Int) => (l.length - k).toNat) (0) ⟨Fr.refl _ _, hH, rfl, (by omega), (by omega), fun j a b => absurd b (by omega)⟩ ?_
    rintro k sg3 w3 ⟨fr3, hH3, e5_3, h0, hk, hg⟩
    have e0_3 := (fr3 0 rfl).trans (by conv => lhs; whnf)
    have e1_3 := (fr3 1 rfl).trans (by conv => lhs; whnf)
    refine CW.seq ?_
    refine CW.seq ?_
    refine CW.region ?_
    refine RL.val rfl (run_move e5_3) ?_
    refine RL.val rfl (run_move e0_3) ?_
    refine RL.val rfl (run_lenSl (hs.hp hH3) rfl Tryz.underlying39 rfl) ?_
    refine RL.val rfl (run_lss rfl rfl) ?_
    refine RL.nil ?_
    refine CW.condP rfl (fun h5 => ?_) (fun h5 => ?_)
    · refine CW.skip ?_
      refine CW.seq ?_
      refine CW.block ?_
      refine CW.seq ?_
      refine CW.regionD (by kernel_rfl) hH3 ?_
      intro w6 hH7
      refine AN.take 0 rfl rfl (by kernel_rfl) (by kernel_rfl) (by kernel_rfl) (hH7.sub (List.Sublist.refl _)) (fun w hS => run_move e0_3) ?_
      refine AN.take 1 rfl rfl (by kernel_rfl) (by kernel_rfl) (by kernel_rfl) (hH7.sub (List.Sublist.refl _)) (fun w hS => run_move e5_3) ?_
      refine AN.take 2 rfl rfl (by kernel_rfl) (by kernel_rfl) (by kernel_rfl) (hH7.sub (List.Sublist.refl _)) (fun w hS => run_indexAddrS (hs.hp hS) Tryz.underlying39 Tryz.sizeOf9 rfl rfl (by omega)) ?_
      refine AN.take 3 rfl rfl (by kernel_rfl) (by kernel_rfl) (by kernel_rfl) (hH7.sub (List.Sublist.refl _)) (fun w hS => run_ld Tryz.underlying9 rfl rfl ((hs.hp hS).cell _ _ (txL_at (by omega)))) ?_
      refine AN.take 4 rfl rfl (by kernel_rfl) (by kernel_rfl) (by kernel_rfl) (hH7.sub (List.Sublist.refl _)) (fun w hS => run_move e1_3) ?_
      refine AN.take 5 rfl rfl (by kernel_rfl) (by kernel_rfl) (by kernel_rfl) (hH7.sub (List.Sublist.refl _)) (fun w hS => run_move e5_3) ?_
      refine AN.take 6 rfl rfl (by kernel_rfl) (by kernel_rfl) (by kernel_rfl) (hH7.sub (List.Sublist.refl _)) (fun w hS => run_indexAddrS (ht.hp hS) Tryz.underlying39 Tryz.sizeOf9 rfl rfl (by omega)) ?_
      refine AN.take 7 rfl rfl (by kernel_rfl) (by kernel_rfl) (by kernel_rfl) (hH7.sub (List.Sublist.refl _)) (fun w hS => run_ld Tryz.underlying9 rfl rfl ((ht.hp hS).cell _ _ (txL_at (by omega)))) ?_
      refine AN.take 8 rfl rfl (by kernel_rfl) (by kernel_rfl) (by kernel_rfl) (hH7.sub (List.Sublist.refl _)) (fun w hS => run_neqS rfl rfl) ?_
      refine AN.done (by kernel_rfl) ?_
      refine CW.condP rfl (fun h9 => ?_) (fun h9 => ?_)
      · refine CW.seq ?_
        refine CW.region ?_
        refine RL.val rfl (run_assign (v := B false) rfl) ?_
        refine RL.nil ?_
        refine CW.ret ?_
        refine outP1 Tryz.results29 (congrArg B ?_) hH7.below
        first | exact (same_no hlm h0 ‹_› ‹_›).symm | exact (same_yes hlm fun j a b => hg j a (by omega)).symm | exact (decide_eq_false fun e => (show ¬ l.length = m.length by omega) (by rw [e])).symm
      · refine CW.skip ?_
        refine CW.region ?_
        refine RL.val rfl (run_move e5_3) ?_
        refine RL.val rfl (run_add rfl rfl (by omega)) ?_
        refine RL.val rfl (run_assign (v := I _) rfl) ?_
        refine RL.nil ?_
        refine ⟨k + 1, ?_, (((((((((((((((fr3.u rfl).u rfl).u rfl).u rfl).u rfl).u rfl).u rfl).u rfl).u rfl).u rfl).u rfl).u rfl).u rfl).u rfl).u rfl).u rfl, hH7, (congrArg I (by first | rfl | omega)), ?_, ?_, ?_⟩
        · ((try dsimp only); omega)
        · omega
        · omega
        · exact fun j a b => if e : j = k then e ▸ Decidable.of_not_not ‹_› else hg j a (by omega)
    · refine CW.exit (id := 0) rfl ?_
      refine CW.seq ?_
      refine CW.region ?_
      refine RL.val rfl (run_assign (v := B true) rfl) ?_
      refine RL.nil ?_
      refine CW.ret ?_
      refine outP1 Tryz.results29 (congrArg B ?_) hH3.below
      first | exact (same_no hlm h0 ‹_› ‹_›).symm | exact (same_yes hlm fun j a b => hg j a (by omega)).symm | exact (decide_eq_false fun e => (show ¬ l.length = m.length by omega) (by rw [e])).symm

end Go.Proofs.YtgmdjomdmfcpnaaGreatDoor.W
