/-
  The walks of the functions that the laws of this seat reach, part 1: each returns what its plain counterpart tells, and turns nothing that was there.
-/
import Derived.Test.YtgpneklbdmgjgaaDoorProg
import Derived.Test.YtgpneklbdmgjgaaDoorEnv
import Derived.Test.YtgpneklbdmgjgaaDoorPlain
import Derived.Test.YtgpneklbdmgjgaaDoorBase
import Derived.Test.YtgpneklbdmgjgaaDoorOrd
import Derived.Test.YtgpneklbdmgjgaaDoorRel
import Derived.Test.YtgpneklbdmgjgaaDoorClo
import Derived.Test.YtgpneklbdmgjgaaDoorCov
import Derived.Test.YtgpneklbdmgjgaaDoorArr
import Derived.Test.YtgpneklbdmgjgaaDoorHas
import Derived.Test.YtgpneklbdmgjgaaDoorGrd
namespace Go.Proofs.YtgpneklbdmgjgaaDoor.W
open Go Go.RowKit Go.Proofs.YtgpneklbdmgjgaaDoor.E Go.Proofs.YtgpneklbdmgjgaaDoor.M
set_option linter.unusedVariables false
set_option linter.unusedSimpArgs false
set_option maxRecDepth 100000

theorem zero_rel : ∀ w, (zeroValue 25).run Tryd.prog w = .ok (.agg (relC Rl.none)) w := fun w => by
  rw [relC_def]; exact Tryd.zeroValue25 w
theorem built_rel (a : Int) : Tryd.prog.built 25 [(0, I a)] = some (relC ⟨a, fun _ => 0#64⟩) := by
  rw [relC_def]; rfl
theorem relT_fields : Tryd.prog.fieldsOf 25 = #[{ name := "N", type := 3, offset := 0, embedded := false, tag := "", pkgPath := "", byteOffset := 0 }, { name := "Up", type := 23, offset := 1, embedded := false, tag := "", pkgPath := "", byteOffset := 8 }] := by
  unfold Program.fieldsOf; rw [Tryd.underlying25]
theorem relT_fact : RelT Tryd.prog 25 { name := "N", type := 3, offset := 0, embedded := false, tag := "", pkgPath := "", byteOffset := 0 } { name := "Up", type := 23, offset := 1, embedded := false, tag := "", pkgPath := "", byteOffset := 8 } 22 :=
  ⟨by rw [relT_fields]; exact Tryd.underlying25, relT_fields, by decide, by decide, rfl, rfl, Tryd.underlying3, Tryd.isAgg3, Tryd.underlying23, Tryd.isAgg23, Tryd.sizeOf23, Tryd.underlying22, Tryd.sizeOf22, Tryd.isAgg22, by kernel_rfl, by kernel_rfl⟩
theorem pairT_fields : Tryd.prog.fieldsOf 27 = #[{ name := "Low", type := 3, offset := 0, embedded := false, tag := "", pkgPath := "", byteOffset := 0 }, { name := "High", type := 3, offset := 1, embedded := false, tag := "", pkgPath := "", byteOffset := 8 }] := by
  unfold Program.fieldsOf; rw [Tryd.underlying27]
theorem pairT_fact : PairT Tryd.prog 27 { name := "Low", type := 3, offset := 0, embedded := false, tag := "", pkgPath := "", byteOffset := 0 } { name := "High", type := 3, offset := 1, embedded := false, tag := "", pkgPath := "", byteOffset := 8 } :=
  ⟨by rw [pairT_fields]; exact Tryd.underlying27, pairT_fields, by decide, by decide, rfl, rfl, Tryd.underlying3, Tryd.isAgg3, Tryd.underlying3, Tryd.isAgg3, by kernel_rfl, by kernel_rfl⟩
theorem built_pair (a b : Int) : Tryd.prog.built 27 [(0, I a), (1, I b)] = some #[I a, I b] := rfl
theorem zero_arr : ∀ w, (zeroValue 78).run Tryd.prog w = .ok (.agg (arrC fun _ => 0)) w := fun w => by
  rw [arrC_zero]; exact Tryd.zeroValue78 w

theorem c_mask_Below (n : Int) (w : World) : Calls Tryd.prog 92 #[I n] w (Pure (U (below n)) w) := by
  refine enter Tryd.func92 rfl Tryd.ntmps92 rfl ?_
  have hH := Hp.start w
  refine CW.seq ?_
  refine CW.region ?_
  refine RL.val rfl (run_assign (v := U 0#64) rfl) ?_
  refine RL.nil ?_
  refine CW.seq ?_
  refine CW.seq ?_
  refine CW.region ?_
  refine RL.val rfl (run_move (v := I _) rfl) ?_
  refine RL.val rfl (run_leq rfl rfl) ?_
  refine RL.nil ?_
  refine CW.condP rfl (fun h2 => ?_) (fun h2 => ?_)
  · refine CW.seq ?_
    refine CW.region ?_
    refine RL.val rfl (run_assign (v := U 0#64) rfl) ?_
    refine RL.nil ?_
    refine CW.ret ?_
    exact outP1 Tryd.results92 (congrArg U (below_nonpos ‹_›).symm) hH.below
  · refine CW.skip ?_
    refine CW.seq ?_
    refine CW.seq ?_
    refine CW.region ?_
    refine RL.val rfl (run_move (v := I _) rfl) ?_
    refine RL.val rfl (run_geq rfl rfl) ?_
    refine RL.nil ?_
    refine CW.condP rfl (fun h4 => ?_) (fun h4 => ?_)
    · refine CW.seq ?_
      refine CW.region ?_
      refine RL.val rfl (run_assign (v := U 18446744073709551615#64) rfl) ?_
      refine RL.nil ?_
      refine CW.ret ?_
      exact outP1 Tryd.results92 (congrArg U (below_all ‹_›).symm) hH.below
    · refine CW.skip ?_
      refine CW.seq ?_
      refine CW.region ?_
      refine RL.val rfl (run_move (v := I _) rfl) ?_
      refine RL.val rfl (run_convIU Tryd.underlying3 Tryd.underlying74 rfl) ?_
      refine RL.val rfl (run_shlU (a := 1#64) rfl rfl) ?_
      refine RL.val rfl (run_subU rfl (b := 1#64) rfl) ?_
      refine RL.val rfl (run_assign (v := U _) rfl) ?_
      refine RL.nil ?_
      refine CW.ret ?_
      exact outP1 Tryd.results92 (congrArg U (below_mid ‹_› ‹_›).symm) hH.below

theorem c_mask_in (i : Int) (w : World) : Calls Tryd.prog 115 #[I i] w (Pure (B (inB i)) w) := by
  refine enter Tryd.func115 rfl Tryd.ntmps115 rfl ?_
  have hH := Hp.start w
  refine CW.seq ?_
  refine CW.region ?_
  refine RL.val rfl (run_assign (v := B false) rfl) ?_
  refine RL.nil ?_
  refine CW.seq ?_
  refine CW.region ?_
  refine RL.val rfl (run_move (v := I _) rfl) ?_
  refine RL.val rfl (run_geq rfl rfl) ?_
  refine RL.val rfl (run_move (v := B _) rfl) ?_
  refine RL.splitP (dj := 5) rfl (fun h2 => ?_) (fun h2 => ?_)
  · refine RL.gT rfl (bT h2) ?_
    refine RL.val rfl (run_move (v := I _) rfl) ?_
    refine RL.gT rfl (bT h2) ?_
    refine RL.val rfl (run_lss rfl rfl) ?_
    refine RL.val rfl (run_pickT (bT h2) (v := B _) rfl) ?_
    refine RL.val rfl (run_assign (v := B _) rfl) ?_
    refine RL.nil ?_
    refine CW.ret ?_
    refine outP1 Tryd.results115 (congrArg B ?_) hH.below
    (simp [inB]; try omega)
  · refine RL.gF rfl rfl (bF h2) rfl ?_
    refine RL.gF rfl rfl (bF h2) rfl ?_
    refine RL.val rfl (run_pickF (bF h2) (v := B false) rfl) ?_
    refine RL.val rfl (run_assign (v := B _) rfl) ?_
    refine RL.nil ?_
    refine CW.ret ?_
    refine outP1 Tryd.results115 (congrArg B ?_) hH.below
    (simp [inB]; try omega)

theorem c_mask_Has (s : BitVec 64) (i : Int) (w : World) : Calls Tryd.prog 91 #[U s, I i] w (Pure (B (hasB s i)) w) := by
  refine enter Tryd.func91 rfl Tryd.ntmps91 rfl ?_
  have hH := Hp.start w
  refine CW.seq ?_
  refine CW.region ?_
  refine RL.val rfl (run_assign (v := B false) rfl) ?_
  refine RL.nil ?_
  refine CW.seq ?_
  refine CW.region ?_
  refine RL.val rfl (run_move (v := I _) rfl) ?_
  refine RL.callP rfl hH (c_mask_in _  _) (run_call1 Tryd.call115 rfl) ?_
  intro w1 hH2
  refine RL.val rfl (run_move (v := B _) rfl) ?_
  refine RL.split (dj := 7) rfl (fun h4 => ?_) (fun h4 => ?_)
  · refine RL.gT rfl (bR (c := true) h4) ?_
    refine RL.val rfl (run_move (v := U _) rfl) ?_
    refine RL.gT rfl (bR (c := true) h4) ?_
    refine RL.val rfl (run_move (v := I _) rfl) ?_
    refine RL.gT rfl (bR (c := true) h4) ?_
    refine RL.val rfl (run_convIU Tryd.underlying3 Tryd.underlying74 rfl) ?_
    refine RL.gT rfl (bR (c := true) h4) ?_
    refine RL.val rfl (run_shrU rfl rfl) ?_
    refine RL.gT rfl (bR (c := true) h4) ?_
    refine RL.val rfl (run_andU rfl (b := 1#64) rfl) ?_
    refine RL.gT rfl (bR (c := true) h4) ?_
    refine RL.val rfl (run_eqlU rfl (b := 1#64) rfl) ?_
    refine RL.val rfl (run_pickT (bR (c := true) h4) (v := B _) rfl) ?_
    refine RL.val rfl (run_assign (v := B _) rfl) ?_
    refine RL.nil ?_
    refine CW.ret ?_
    refine outP1 Tryd.results91 (congrArg B ?_) hH2.below
    exact has_bit s ‹inB i = true›
  · refine RL.gF rfl rfl (bR (c := false) h4) rfl ?_
    refine RL.gF rfl rfl (bR (c := false) h4) rfl ?_
    refine RL.gF rfl rfl (bR (c := false) h4) rfl ?_
    refine RL.gF rfl rfl (bR (c := false) h4) rfl ?_
    refine RL.gF rfl rfl (bR (c := false) h4) rfl ?_
    refine RL.gF rfl rfl (bR (c := false) h4) rfl ?_
    refine RL.val rfl (run_pickF (bR (c := false) h4) (v := B false) rfl) ?_
    refine RL.val rfl (run_assign (v := B _) rfl) ?_
    refine RL.nil ?_
    refine CW.ret ?_
    refine outP1 Tryd.results91 (congrArg B ?_) hH2.below
    exact (has_no s ‹inB i = false›).symm

theorem c_mask_With (s : BitVec 64) (i : Int) (w : World) : Calls Tryd.prog 90 #[U s, I i] w (Pure (U (withB s i)) w) := by
  refine enter Tryd.func90 rfl Tryd.ntmps90 rfl ?_
  have hH := Hp.start w
  refine CW.seq ?_
  refine CW.region ?_
  refine RL.val rfl (run_assign (v := U 0#64) rfl) ?_
  refine RL.nil ?_
  refine CW.seq ?_
  refine CW.seq ?_
  refine CW.region ?_
  refine RL.val rfl (run_move (v := I _) rfl) ?_
  refine RL.callP rfl hH (c_mask_in _  _) (run_call1 Tryd.call115 rfl) ?_
  intro w1 hH2
  refine RL.val rfl (run_not rfl) ?_
  refine RL.nil ?_
  refine CW.cond rfl (fun h5 => ?_) (fun h5 => ?_)
  · refine CW.seq ?_
    refine CW.region ?_
    refine RL.val rfl (run_move (v := U _) rfl) ?_
    refine RL.val rfl (run_assign (v := U _) rfl) ?_
    refine RL.nil ?_
    refine CW.ret ?_
    refine outP1 Tryd.results90 (congrArg U ?_) hH2.below
    simp_all [withB]
  · refine CW.skip ?_
    refine CW.seq ?_
    refine CW.region ?_
    refine RL.val rfl (run_move (v := U _) rfl) ?_
    refine RL.val rfl (run_move (v := I _) rfl) ?_
    refine RL.val rfl (run_convIU Tryd.underlying3 Tryd.underlying74 rfl) ?_
    refine RL.val rfl (run_shlU (a := 1#64) rfl rfl) ?_
    refine RL.val rfl (run_orU rfl rfl) ?_
    refine RL.val rfl (run_assign (v := U _) rfl) ?_
    refine RL.nil ?_
    refine CW.ret ?_
    refine outP1 Tryd.results90 (congrArg U ?_) hH2.below
    simp_all [withB]

theorem c_mask_Without (s : BitVec 64) (i : Int) (w : World) : Calls Tryd.prog 116 #[U s, I i] w (Pure (U (lessB s i)) w) := by
  refine enter Tryd.func116 rfl Tryd.ntmps116 rfl ?_
  have hH := Hp.start w
  refine CW.seq ?_
  refine CW.region ?_
  refine RL.val rfl (run_assign (v := U 0#64) rfl) ?_
  refine RL.nil ?_
  refine CW.seq ?_
  refine CW.seq ?_
  refine CW.region ?_
  refine RL.val rfl (run_move (v := I _) rfl) ?_
  refine RL.callP rfl hH (c_mask_in _  _) (run_call1 Tryd.call115 rfl) ?_
  intro w1 hH2
  refine RL.val rfl (run_not rfl) ?_
  refine RL.nil ?_
  refine CW.cond rfl (fun h5 => ?_) (fun h5 => ?_)
  · refine CW.seq ?_
    refine CW.region ?_
    refine RL.val rfl (run_move (v := U _) rfl) ?_
    refine RL.val rfl (run_assign (v := U _) rfl) ?_
    refine RL.nil ?_
    refine CW.ret ?_
    refine outP1 Tryd.results116 (congrArg U ?_) hH2.below
    simp_all [lessB]
  · refine CW.skip ?_
    refine CW.seq ?_
    refine CW.region ?_
    refine RL.val rfl (run_move (v := U _) rfl) ?_
    refine RL.val rfl (run_move (v := I _) rfl) ?_
    refine RL.val rfl (run_convIU Tryd.underlying3 Tryd.underlying74 rfl) ?_
    refine RL.val rfl (run_shlU (a := 1#64) rfl rfl) ?_
    refine RL.val rfl (run_andNotU rfl rfl) ?_
    refine RL.val rfl (run_assign (v := U _) rfl) ?_
    refine RL.nil ?_
    refine CW.ret ?_
    refine outP1 Tryd.results116 (congrArg U ?_) hH2.below
    simp_all [lessB]

theorem c_mask_Sub (a b : BitVec 64) (w : World) : Calls Tryd.prog 60 #[U a, U b] w (Pure (B (subB a b)) w) := by
  refine enter Tryd.func60 rfl Tryd.ntmps60 rfl ?_
  have hH := Hp.start w
  refine CW.seq ?_
  refine CW.region ?_
  refine RL.val rfl (run_assign (v := B false) rfl) ?_
  refine RL.nil ?_
  refine CW.seq ?_
  refine CW.region ?_
  refine RL.val rfl (run_move (v := U _) rfl) ?_
  refine RL.val rfl (run_move (v := U _) rfl) ?_
  refine RL.val rfl (run_andNotU rfl rfl) ?_
  refine RL.val rfl (run_eqlU rfl (b := 0#64) rfl) ?_
  refine RL.val rfl (run_assign (v := B _) rfl) ?_
  refine RL.nil ?_
  refine CW.ret ?_
  refine outP1 Tryd.results60 (congrArg B ?_) hH.below
  rfl

theorem c_mask_Of (v : Value) (l : List Int) (w : World) (hs : Sl w v 1 l.length (l.map I)) : Calls Tryd.prog 65 #[v] w (Pure (U (ofl l)) w) := by
  have hm := hs.small
  unfold maxLen at hm
  refine enter Tryd.func65 rfl Tryd.ntmps65 rfl ?_
  have hH := Hp.start w
  refine CW.seq ?_
  refine CW.region ?_
  refine RL.val rfl (run_assign (v := U 0#64) rfl) ?_
  refine RL.nil ?_
  refine CW.seq ?_
  refine CW.region ?_
  refine RL.val rfl (run_assign (v := U 0#64) rfl) ?_
  refine RL.nil ?_
  refine CW.seq ?_
  refine CW.seq ?_
  refine CW.region ?_
  refine RL.val rfl (run_move (by conv => lhs; whnf)) ?_
  refine RL.val rfl (run_lenSl (hs.hp hH) rfl Tryd.underlying36 rfl) ?_
  refine RL.val rfl (run_move (v := I 0) rfl) ?_
  refine RL.nil ?_
  refine CW.block ?_
  refine CW.loop (G := (Int)) (fun (k : Int) s' w' => (Fr [3, 5, 8, 9, 10, 11, 12, 13, 14, 15] _ s') ∧ (Hp w w' _) ∧ (s' 3 = U (ofl (l.take k.toNat))) ∧ (s' 8 = I k) ∧ (0 ≤ k) ∧ (k ≤ l.length)) (fun (k : Int) => (l.length - k).toNat) (0) ⟨Fr.refl _ _, hH, (congrArg U (by simp [ofl_nil])), rfl, (by omega), (by omega)⟩ ?_
  rintro k sg1 w1 ⟨fr1, hH1, e3_1, e8_1, h0, hk⟩
  have e2_1 : sg1 2 = U _ := (fr1 2 rfl).trans rfl
  have e6_1 := (fr1 6 rfl).trans (by conv => lhs; whnf)
  have e7_1 : sg1 7 = I _ := (fr1 7 rfl).trans rfl
  refine CW.seq ?_
  refine CW.region ?_
  refine RL.val rfl (run_lss e8_1 e7_1) ?_
  refine RL.nil ?_
  refine CW.seq ?_
  refine CW.condP rfl (fun h3 => ?_) (fun h3 => ?_)
  · refine CW.skip ?_
    refine CW.seq ?_
    refine CW.block ?_
    refine CW.seq ?_
    refine CW.region ?_
    refine RL.val rfl (run_indexAddrS (hs.hp hH1) Tryd.underlying36 Tryd.sizeOf3 e6_1 e8_1 (by omega)) ?_
    refine RL.val rfl (run_ld Tryd.underlying3 rfl rfl ((hs.hp hH1).cell _ _ (map_at (by omega)))) ?_
    refine RL.val rfl (run_assign (v := I _) rfl) ?_
    refine RL.nil ?_
    refine CW.region ?_
    refine RL.val rfl (run_move e3_1) ?_
    refine RL.val rfl (run_move (v := I _) rfl) ?_
    refine RL.callP rfl hH1 (c_mask_With _ _  _) (run_call2 Tryd.call90 rfl rfl) ?_
    intro w4 hH5
    refine RL.val rfl (run_assign (v := U _) rfl) ?_
    refine RL.nil ?_
    refine CW.region ?_
    refine RL.val rfl (run_add e8_1 rfl (by omega)) ?_
    refine RL.val rfl (run_move (v := I _) rfl) ?_
    refine RL.nil ?_
    refine ⟨k + 1, ?_, (((((((((fr1.u rfl).u rfl).u rfl).u rfl).u rfl).u rfl).u rfl).u rfl).u rfl).u rfl, hH5, (congrArg U (by rw [withB_ofl, ← take_next h0 ‹_›])), (congrArg I (by first | rfl | omega)), ?_, ?_⟩
    · ((try dsimp only); omega)
    · omega
    · omega
  · refine CW.exit (id := 0) rfl ?_
    refine CW.seq ?_
    refine CW.region ?_
    refine RL.val rfl (run_move e3_1) ?_
    refine RL.val rfl (run_assign (v := U _) rfl) ?_
    refine RL.nil ?_
    refine CW.ret ?_
    refine outP1 Tryd.results65 (congrArg U ?_) hH1.below
    rw [take_all ‹_›]

theorem c_clearanceref01_Has (s : BitVec 64) (i : Int) (w : World) : Calls Tryd.prog 31 #[U s, I i] w (Pure (B (hasB s i)) w) := by
  refine enter Tryd.func31 rfl Tryd.ntmps31 rfl ?_
  have hH := Hp.start w
  refine CW.seq ?_
  refine CW.region ?_
  refine RL.val rfl (run_assign (v := B false) rfl) ?_
  refine RL.nil ?_
  refine CW.seq ?_
  refine CW.seq ?_
  refine CW.region ?_
  refine RL.val rfl (run_move (v := I _) rfl) ?_
  refine RL.val rfl (run_lss rfl rfl) ?_
  refine RL.val rfl (run_move (v := B _) rfl) ?_
  refine RL.splitP (dj := 8) rfl (fun h2 => ?_) (fun h2 => ?_)
  · refine RL.gF rfl rfl (bT h2) rfl ?_
    refine RL.gF rfl rfl (bT h2) rfl ?_
    refine RL.val rfl (run_pickT (bT h2) (v := B true) rfl) ?_
    refine RL.nil ?_
    refine CW.condT rfl ?_
    refine CW.seq ?_
    refine CW.region ?_
    refine RL.val rfl (run_assign (v := B false) rfl) ?_
    refine RL.nil ?_
    refine CW.ret ?_
    refine outP1 Tryd.results31 (congrArg B ?_) hH.below
    exact (has_no s (by simp [inB]; omega)).symm
  · refine RL.gT rfl (bF h2) ?_
    refine RL.val rfl (run_move (v := I _) rfl) ?_
    refine RL.gT rfl (bF h2) ?_
    refine RL.val rfl (run_gtr rfl rfl) ?_
    refine RL.val rfl (run_pickF (bF h2) (v := B _) rfl) ?_
    refine RL.nil ?_
    refine CW.condP rfl (fun h4 => ?_) (fun h4 => ?_)
    · refine CW.seq ?_
      refine CW.region ?_
      refine RL.val rfl (run_assign (v := B false) rfl) ?_
      refine RL.nil ?_
      refine CW.ret ?_
      refine outP1 Tryd.results31 (congrArg B ?_) hH.below
      exact (has_no s (by simp [inB]; omega)).symm
    · refine CW.skip ?_
      refine CW.seq ?_
      refine CW.seq ?_
      refine CW.region ?_
      refine RL.val rfl (run_assign (v := I 0) rfl) ?_
      refine RL.nil ?_
      refine CW.block ?_
      refine CW.loop (G := (Int)) (fun (k : Int) s' w' => (Fr [0, 5, 12, 13, 14, 15, 16, 17, 18] _ s') ∧ (Hp w w' _) ∧ (s' 0 = U (s >>> k.toNat)) ∧ (s' 5 = I k) ∧ (0 ≤ k) ∧ (k ≤ i)) (fun (k : Int) => (i - k).toNat) (0) ⟨Fr.refl _ _, hH, (congrArg U (by simp)), rfl, (by omega), (by omega)⟩ ?_
      rintro k sg5 w5 ⟨fr5, hH5, e0_5, e5_5, h0, hk⟩
      have e1_5 : sg5 1 = I _ := (fr5 1 rfl).trans rfl
      have e4_5 : sg5 4 = B _ := (fr5 4 rfl).trans rfl
      refine CW.seq ?_
      refine CW.seq ?_
      refine CW.region ?_
      refine RL.val rfl (run_move e5_5) ?_
      refine RL.val rfl (run_move e1_5) ?_
      refine RL.val rfl (run_lss rfl rfl) ?_
      refine RL.nil ?_
      refine CW.condP rfl (fun h7 => ?_) (fun h7 => ?_)
      · refine CW.skip ?_
        refine CW.seq ?_
        refine CW.block ?_
        refine CW.region ?_
        refine RL.val rfl (run_move e0_5) ?_
        refine RL.val rfl (run_quoU rfl (b := 2#64) rfl (by decide)) ?_
        refine RL.val rfl (run_assign (v := U _) rfl) ?_
        refine RL.nil ?_
        refine CW.region ?_
        refine RL.val rfl (run_move e5_5) ?_
        refine RL.val rfl (run_add rfl rfl (by omega)) ?_
        refine RL.val rfl (run_assign (v := I _) rfl) ?_
        refine RL.nil ?_
        refine ⟨k + 1, ?_, ((((((((fr5.u rfl).u rfl).u rfl).u rfl).u rfl).u rfl).u rfl).u rfl).u rfl, hH5, (congrArg U (by rw [half, show (k + 1).toNat = k.toNat + 1 by omega])), (congrArg I (by first | rfl | omega)), ?_, ?_⟩
        · ((try dsimp only); omega)
        · omega
        · omega
      · refine CW.exit (id := 0) rfl ?_
        refine CW.seq ?_
        refine CW.region ?_
        refine RL.val rfl (run_move e0_5) ?_
        refine RL.val rfl (run_remU rfl (b := 2#64) rfl (by decide)) ?_
        refine RL.val rfl (run_eqlU rfl (b := 1#64) rfl) ?_
        refine RL.val rfl (run_assign (v := B _) rfl) ?_
        refine RL.nil ?_
        refine CW.ret ?_
        refine outP1 Tryd.results31 (congrArg B ?_) hH5.below
        (rw [hasB, show inB i = true by simp [inB]; omega, show k = i by omega]; rw [Bool.eq_iff_iff]; simp only [decide_eq_true_eq, Bool.true_and]; exact rem_bit s _)

theorem c_clearanceref01_Of (v : Value) (l : List Int) (w : World) (hs : Sl w v 1 l.length (l.map I)) : Calls Tryd.prog 96 #[v] w (Pure (U (ofl l)) w) := by
  have hm := hs.small
  unfold maxLen at hm
  refine enter Tryd.func96 rfl Tryd.ntmps96 rfl ?_
  have hH := Hp.start w
  refine CW.seq ?_
  refine CW.region ?_
  refine RL.val rfl (run_assign (v := U 0#64) rfl) ?_
  refine RL.nil ?_
  refine CW.seq ?_
  refine CW.region ?_
  refine RL.val rfl (run_assign (v := U 0#64) rfl) ?_
  refine RL.val rfl (run_assign (v := U 1#64) rfl) ?_
  refine RL.nil ?_
  refine CW.seq ?_
  refine CW.seq ?_
  refine CW.region ?_
  refine RL.val rfl (run_assign (v := I 0) rfl) ?_
  refine RL.nil ?_
  refine CW.block ?_
  refine CW.loop (G := (Int)) (fun (i : Int) s' w' => (Fr [3, 4, 5, 6, 7, 8, 9, 10, 11, 12, 13, 14, 15, 16, 17, 18, 19, 20, 21, 22, 23, 24, 25, 26, 27] _ s') ∧ (Hp w w' _) ∧ (s' 3 = U (oflTo l i.toNat)) ∧ (s' 4 = U (1#64 <<< i.toNat)) ∧ (s' 5 = I i) ∧ (0 ≤ i) ∧ (i ≤ 64)) (fun (i : Int) => (64 - i).toNat) (0) ⟨Fr.refl _ _, hH, (congrArg U (by rfl)), (congrArg U (by rfl)), rfl, (by omega), (by omega)⟩ ?_
  rintro i sg1 w1 ⟨fr1, hH1, e3_1, e4_1, e5_1, i0, i1⟩
  have e0_1 := (fr1 0 rfl).trans (by conv => lhs; whnf)
  have e2_1 : sg1 2 = U _ := (fr1 2 rfl).trans rfl
  refine CW.seq ?_
  refine CW.seq ?_
  refine CW.region ?_
  refine RL.val rfl (run_move e5_1) ?_
  refine RL.val rfl (run_lss rfl rfl) ?_
  refine RL.nil ?_
  refine CW.condP rfl (fun h3 => ?_) (fun h3 => ?_)
  · refine CW.skip ?_
    refine CW.seq ?_
    refine CW.block ?_
    refine CW.seq ?_
    refine CW.seq ?_
    refine CW.region ?_
    refine RL.val rfl (run_assign (v := I 0) rfl) ?_
    refine RL.nil ?_
    refine CW.block ?_
    refine CW.loop (G := (Int)) (fun (k : Int) s' w' => (Fr [3, 6, 11, 12, 13, 14, 15, 16, 17, 18, 19, 20, 21, 22, 23, 24, 25] _ s') ∧ (Hp w w' _) ∧ (s' 3 = U (oflTo l i.toNat)) ∧ (s' 6 = I k) ∧ (0 ≤ k) ∧ (k ≤ l.length) ∧ (∀ j : Int, 0 ≤ j → j < k → l.getD j.toNat 0 ≠ i)) (fun (k : Int) => (l.length - k).toNat) (0) ⟨Fr.refl _ _, hH1, e3_1, rfl, (by omega), (by omega), fun j a b => absurd b (by omega)⟩ ?_
    rintro k sg4 w4 ⟨fr4, hH4, e3_4, e6_4, k0, k1, hf⟩
    have e0_4 := (fr4 0 rfl).trans e0_1
    have e2_4 := (fr4 2 rfl).trans e2_1
    have e4_4 := (fr4 4 rfl).trans e4_1
    have e5_4 := (fr4 5 rfl).trans e5_1
    have e7_4 : sg4 7 = I _ := (fr4 7 rfl).trans rfl
    have e8_4 : sg4 8 = B _ := (fr4 8 rfl).trans rfl
    refine CW.seq ?_
    refine CW.seq ?_
    refine CW.region ?_
    refine RL.val rfl (run_move e6_4) ?_
    refine RL.val rfl (run_move e0_4) ?_
    refine RL.val rfl (run_lenSl (hs.hp hH4) rfl Tryd.underlying36 rfl) ?_
    refine RL.val rfl (run_lss rfl rfl) ?_
    refine RL.nil ?_
    refine CW.condP rfl (fun h6 => ?_) (fun h6 => ?_)
    · refine CW.skip ?_
      refine CW.seq ?_
      refine CW.block ?_
      refine CW.seq ?_
      refine CW.region ?_
      refine RL.val rfl (run_move e0_4) ?_
      refine RL.val rfl (run_move e6_4) ?_
      refine RL.val rfl (run_indexAddrS (hs.hp hH4) Tryd.underlying36 Tryd.sizeOf3 rfl rfl (by omega)) ?_
      refine RL.val rfl (run_ld Tryd.underlying3 rfl rfl ((hs.hp hH4).cell _ _ (map_at (by omega)))) ?_
      refine RL.val rfl (run_move e5_4) ?_
      refine RL.val rfl (run_eql rfl rfl) ?_
      refine RL.nil ?_
      refine CW.condP rfl (fun h8 => ?_) (fun h8 => ?_)
      · refine CW.seq ?_
        refine CW.region ?_
        refine RL.val rfl (run_move e3_4) ?_
        refine RL.val rfl (run_move e4_4) ?_
        refine RL.val rfl (run_addU rfl rfl) ?_
        refine RL.val rfl (run_assign (v := U _) rfl) ?_
        refine RL.nil ?_
        refine CW.exit (id := 2) rfl ?_
        refine CW.region ?_
        refine RL.val rfl (run_move e4_4) ?_
        refine RL.val rfl (run_mulU rfl (b := 2#64) rfl) ?_
        refine RL.val rfl (run_assign (v := U _) rfl) ?_
        refine RL.nil ?_
        refine CW.region ?_
        refine RL.val rfl (run_move e5_4) ?_
        refine RL.val rfl (run_add rfl rfl (by omega)) ?_
        refine RL.val rfl (run_assign (v := I _) rfl) ?_
        refine RL.nil ?_
        refine ⟨i + 1, ?_, ((((((((((((((((((((((((fr1.u rfl).u rfl).u rfl).t fr4 rfl)).u rfl).u rfl).u rfl).u rfl).u rfl).u rfl).u rfl).u rfl).u rfl).u rfl).u rfl).u rfl).u rfl).u rfl).u rfl).u rfl).u rfl).u rfl).u rfl).u rfl, hH4, (congrArg U (oflTo_yesI i0 (by omega) k0 (by omega) ‹_›)), (congrArg U (by rw [shl_two, show (i + 1).toNat = i.toNat + 1 by omega])), (congrArg I (by first | rfl | omega)), ?_, ?_⟩
        · ((try dsimp only); omega)
        · omega
        · omega
      · refine CW.skip ?_
        refine CW.region ?_
        refine RL.val rfl (run_move e6_4) ?_
        refine RL.val rfl (run_add rfl rfl (by omega)) ?_
        refine RL.val rfl (run_assign (v := I _) rfl) ?_
        refine RL.nil ?_
        refine ⟨k + 1, ?_, ((((((((((((fr4.u rfl).u rfl).u rfl).u rfl).u rfl).u rfl).u rfl).u rfl).u rfl).u rfl).u rfl).u rfl).u rfl, hH4, e3_4, (congrArg I (by first | rfl | omega)), ?_, ?_, ?_⟩
        · ((try dsimp only); omega)
        · omega
        · omega
        · exact fun j a b => if e : j = k then e ▸ ‹¬ l.getD k.toNat 0 = i› else hf j a (by omega)
    · refine CW.exit (id := 2) rfl ?_
      refine CW.region ?_
      refine RL.val rfl (run_move e4_4) ?_
      refine RL.val rfl (run_mulU rfl (b := 2#64) rfl) ?_
      refine RL.val rfl (run_assign (v := U _) rfl) ?_
      refine RL.nil ?_
      refine CW.region ?_
      refine RL.val rfl (run_move e5_4) ?_
      refine RL.val rfl (run_add rfl rfl (by omega)) ?_
      refine RL.val rfl (run_assign (v := I _) rfl) ?_
      refine RL.nil ?_
      refine ⟨i + 1, ?_, ((((((((((((((fr1.u rfl).u rfl).u rfl).t fr4 rfl)).u rfl).u rfl).u rfl).u rfl).u rfl).u rfl).u rfl).u rfl).u rfl).u rfl, hH4, (Eq.trans e3_4 (congrArg U (oflTo_noI i0 (fun j a b => hf j a (by omega))))), (congrArg U (by rw [shl_two, show (i + 1).toNat = i.toNat + 1 by omega])), (congrArg I (by first | rfl | omega)), ?_, ?_⟩
      · ((try dsimp only); omega)
      · omega
      · omega
  · refine CW.exit (id := 0) rfl ?_
    refine CW.seq ?_
    refine CW.region ?_
    refine RL.val rfl (run_move e3_1) ?_
    refine RL.val rfl (run_assign (v := U _) rfl) ?_
    refine RL.nil ?_
    refine CW.ret ?_
    refine outP1 Tryd.results96 (congrArg U ?_) hH1.below
    (rw [show i.toNat = 64 by omega]; rfl)

theorem c_clearanceref01_List (s : BitVec 64) (w : World) : Calls Tryd.prog 30 #[U s] w (PureRow 3 1 (lst s).length ((lst s).map I) w) := by
  refine enter Tryd.func30 rfl Tryd.ntmps30 rfl ?_
  have hH := Hp.start w
  refine CW.seq ?_
  refine CW.region ?_
  refine RL.val rfl (run_assign (v := .slice none 0 0) rfl) ?_
  have hH1 := hH.nilRow 3 1
  refine RL.nil ?_
  refine CW.seq ?_
  refine CW.region ?_
  refine RL.val rfl (run_assign (v := .slice none 0 0) rfl) ?_
  have hH2 := hH1.nilRow 3 1
  refine RL.nil ?_
  refine CW.seq ?_
  refine CW.seq ?_
  refine CW.region ?_
  refine RL.val rfl (run_assign (v := I 0) rfl) ?_
  refine RL.nil ?_
  refine CW.block ?_
  refine CW.loop (G := (Int) × (List Int) × (Value)) (fun (⟨k, l, v3⟩ : (Int) × (List Int) × (Value)) s' w' => (Fr [0, 3, 4, 5, 6, 7, 8, 9, 10, 11, 12, 13, 14, 15, 16, 17] _ s') ∧ (Hp w w' (.row v3 3 1 (l.length) (l.map I) :: _)) ∧ (s' 0 = U (s >>> k.toNat)) ∧ (s' 3 = v3) ∧ (s' 4 = I k) ∧ (0 ≤ k) ∧ (k ≤ 64) ∧ (l = lstTo s k.toNat)) (fun (⟨k, l, v3⟩ : (Int) × (List Int) × (Value)) => (64 - k).toNat) ((0, [], (.slice none 0 0 : Value))) ⟨Fr.refl _ _, hH2, (congrArg U (by simp)), rfl, rfl, (by omega), (by omega), rfl⟩ ?_
  rintro ⟨k, l, v3⟩ sg3 w3 ⟨fr3, hH3, e0_3, e3_3, e4_3, h0, hk, hl⟩
  have e2_3 := (fr3 2 rfl).trans (by conv => lhs; whnf)
  refine CW.seq ?_
  refine CW.seq ?_
  refine CW.region ?_
  refine RL.val rfl (run_move e4_3) ?_
  refine RL.val rfl (run_lss rfl rfl) ?_
  refine RL.nil ?_
  refine CW.condP rfl (fun h5 => ?_) (fun h5 => ?_)
  · refine CW.skip ?_
    refine CW.seq ?_
    refine CW.block ?_
    refine CW.seq ?_
    refine CW.seq ?_
    refine CW.region ?_
    refine RL.val rfl (run_move e0_3) ?_
    refine RL.val rfl (run_remU rfl (b := 2#64) rfl (by decide)) ?_
    refine RL.val rfl (run_eqlU rfl (b := 1#64) rfl) ?_
    refine RL.nil ?_
    refine CW.condP rfl (fun h7 => ?_) (fun h7 => ?_)
    · refine CW.region ?_
      refine RL.val rfl (run_move e3_3) ?_
      refine RL.val rfl (run_move e4_3) ?_
      refine RL.new rfl hH3 (f := fun b => (.slice (some ⟨b, 0, none⟩) 1 1)) (run_mkL Tryd.underlying36 rfl rfl (sz := 1) (vs := [I _]) rfl rfl (by decide) (by decide) rfl rfl) ?_
      intro b10 w8 hH9
      (try simp only [List.flatMap_cons, List.flatMap_nil, clI, clB, clS, clP, clL, clA, List.append_nil, List.cons_append, List.nil_append] at hH9)
      refine RL.app rfl hH9 (i := 1) rfl (hH9.slBlk (i := 0) (n := 1) (sz := 1) rfl rfl (by decide)) rfl rfl Tryd.underlying36 rfl rfl (size := 1) (bytes := 8) rfl rfl rfl (by decide) (by simp [Value.oneCell']) (by have := lstTo_len s k.toNat; rw [← hl] at this; omega) (by have := lstTo_len s k.toNat; rw [← hl] at this; simp only [maxLen]; omega) ?_
      intro v11 w12 hH13
      simp only [List.set_cons_zero, List.set_cons_succ] at hH13
      refine RL.val rfl (run_assign (by conv => lhs; whnf)) ?_
      refine RL.nil ?_
      refine CW.region ?_
      refine RL.val rfl (run_move e0_3) ?_
      refine RL.val rfl (run_quoU rfl (b := 2#64) rfl (by decide)) ?_
      refine RL.val rfl (run_assign (v := U _) rfl) ?_
      refine RL.nil ?_
      refine CW.region ?_
      refine RL.val rfl (run_move e4_3) ?_
      refine RL.val rfl (run_add rfl rfl (by omega)) ?_
      refine RL.val rfl (run_assign (v := I _) rfl) ?_
      refine RL.nil ?_
      refine ⟨(k + 1, l ++ [k], v11), ?_, (((((((((((((((fr3.u rfl).u rfl).u rfl).u rfl).u rfl).u rfl).u rfl).u rfl).u rfl).u rfl).u rfl).u rfl).u rfl).u rfl).u rfl).u rfl, (Hp.conv (hH13.sub (.cons _ (List.Sublist.refl _))) (by first | rfl | simp)), (congrArg U (by rw [half, show (k + 1).toNat = k.toNat + 1 by omega])), rfl, (congrArg I (by first | rfl | omega)), ?_, ?_, ?_⟩
      · ((try dsimp only); omega)
      · omega
      · omega
      · rw [hl, lstTo_yes h0 ‹_›]
    · refine CW.skip ?_
      refine CW.region ?_
      refine RL.val rfl (run_move e0_3) ?_
      refine RL.val rfl (run_quoU rfl (b := 2#64) rfl (by decide)) ?_
      refine RL.val rfl (run_assign (v := U _) rfl) ?_
      refine RL.nil ?_
      refine CW.region ?_
      refine RL.val rfl (run_move e4_3) ?_
      refine RL.val rfl (run_add rfl rfl (by omega)) ?_
      refine RL.val rfl (run_assign (v := I _) rfl) ?_
      refine RL.nil ?_
      refine ⟨(k + 1, l, v3), ?_, ((((((((((fr3.u rfl).u rfl).u rfl).u rfl).u rfl).u rfl).u rfl).u rfl).u rfl).u rfl).u rfl, (Hp.conv hH3 (by first | rfl | simp)), (congrArg U (by rw [half, show (k + 1).toNat = k.toNat + 1 by omega])), e3_3, (congrArg I (by first | rfl | omega)), ?_, ?_, ?_⟩
      · ((try dsimp only); omega)
      · omega
      · omega
      · rw [hl, lstTo_no h0 ‹_›]
  · refine CW.exit (id := 0) rfl ?_
    refine CW.seq ?_
    refine CW.region ?_
    refine RL.val rfl (run_move e3_3) ?_
    refine RL.val rfl (run_assign (by conv => lhs; whnf)) ?_
    refine RL.nil ?_
    refine CW.ret ?_
    exact outR Tryd.results30 rfl hH3 (i := 0) rfl (by rw [hl, lstTo_end ‹_› hk]) (by rw [hl, lstTo_end ‹_› hk])

theorem c_clearanceref01_Below (n : Int) (w : World) : Calls Tryd.prog 111 #[I n] w (Pure (U (below n)) w) := by
  refine enter Tryd.func111 rfl Tryd.ntmps111 rfl ?_
  have hH := Hp.start w
  refine CW.seq ?_
  refine CW.region ?_
  refine RL.val rfl (run_assign (v := U 0#64) rfl) ?_
  refine RL.nil ?_
  refine CW.seq ?_
  refine CW.region ?_
  refine RL.val rfl (run_assign (v := .slice none 0 0) rfl) ?_
  have hH1 := hH.nilRow 3 1
  refine RL.nil ?_
  refine CW.seq ?_
  refine CW.seq ?_
  refine CW.region ?_
  refine RL.val rfl (run_assign (v := I 0) rfl) ?_
  refine RL.nil ?_
  refine CW.block ?_
  refine CW.loop (G := (Int) × (List Int) × (Value)) (fun (⟨k, l, v3⟩ : (Int) × (List Int) × (Value)) s' w' => (Fr [3, 4, 5, 6, 7, 8, 9, 10, 11, 12, 13, 14, 15, 16, 17] _ s') ∧ (Hp w w' (.row v3 3 1 (l.length) (l.map I) :: _)) ∧ (s' 3 = v3) ∧ (s' 4 = I k) ∧ (0 ≤ k) ∧ (k ≤ 64) ∧ (k ≤ max n 0) ∧ (l = upto k)) (fun (⟨k, l, v3⟩ : (Int) × (List Int) × (Value)) => (64 - k).toNat) ((0, [], (.slice none 0 0 : Value))) ⟨Fr.refl _ _, hH1, rfl, rfl, (by omega), (by omega), (by omega), rfl⟩ ?_
  rintro ⟨k, l, v3⟩ sg2 w2 ⟨fr2, hH2, e3_2, e4_2, h0, hk, hn, hl⟩
  have e0_2 : sg2 0 = I _ := (fr2 0 rfl).trans rfl
  have e2_2 : sg2 2 = U _ := (fr2 2 rfl).trans rfl
  refine CW.seq ?_
  refine CW.seq ?_
  refine CW.region ?_
  refine RL.val rfl (run_move e4_2) ?_
  refine RL.val rfl (run_move e0_2) ?_
  refine RL.val rfl (run_lss rfl rfl) ?_
  refine RL.val rfl (run_move (v := B _) rfl) ?_
  refine RL.splitP (dj := 8) rfl (fun h4 => ?_) (fun h4 => ?_)
  · refine RL.gT rfl (bT h4) ?_
    refine RL.val rfl (run_move e4_2) ?_
    refine RL.gT rfl (bT h4) ?_
    refine RL.val rfl (run_lss rfl rfl) ?_
    refine RL.val rfl (run_pickT (bT h4) (v := B _) rfl) ?_
    refine RL.nil ?_
    refine CW.condP rfl (fun h6 => ?_) (fun h6 => ?_)
    · refine CW.skip ?_
      refine CW.seq ?_
      refine CW.block ?_
      refine CW.region ?_
      refine RL.val rfl (run_move e3_2) ?_
      refine RL.val rfl (run_move e4_2) ?_
      refine RL.new rfl hH2 (f := fun b => (.slice (some ⟨b, 0, none⟩) 1 1)) (run_mkL Tryd.underlying36 rfl rfl (sz := 1) (vs := [I _]) rfl rfl (by decide) (by decide) rfl rfl) ?_
      intro b9 w7 hH8
      (try simp only [List.flatMap_cons, List.flatMap_nil, clI, clB, clS, clP, clL, clA, List.append_nil, List.cons_append, List.nil_append] at hH8)
      refine RL.app rfl hH8 (i := 1) rfl (hH8.slBlk (i := 0) (n := 1) (sz := 1) rfl rfl (by decide)) rfl rfl Tryd.underlying36 rfl rfl (size := 1) (bytes := 8) rfl rfl rfl (by decide) (by simp [Value.oneCell']) (by have := @upto_len k; rw [← hl] at this; omega) (by have := @upto_len k; rw [← hl] at this; simp only [maxLen]; omega) ?_
      intro v10 w11 hH12
      simp only [List.set_cons_zero, List.set_cons_succ] at hH12
      refine RL.val rfl (run_assign (by conv => lhs; whnf)) ?_
      refine RL.nil ?_
      refine CW.region ?_
      refine RL.val rfl (run_move e4_2) ?_
      refine RL.val rfl (run_add rfl rfl (by omega)) ?_
      refine RL.val rfl (run_assign (v := I _) rfl) ?_
      refine RL.nil ?_
      refine ⟨(k + 1, l ++ [k], v10), ?_, ((((((((((((((fr2.u rfl).u rfl).u rfl).u rfl).u rfl).u rfl).u rfl).u rfl).u rfl).u rfl).u rfl).u rfl).u rfl).u rfl).u rfl, (Hp.conv (hH12.sub (.cons _ (List.Sublist.refl _))) (by first | rfl | simp)), rfl, (congrArg I (by first | rfl | omega)), ?_, ?_, ?_, ?_⟩
      · ((try dsimp only); omega)
      · omega
      · omega
      · omega
      · rw [hl, upto_succ h0]
    · refine CW.exit (id := 0) rfl ?_
      refine CW.seq ?_
      refine CW.region ?_
      refine RL.val rfl (run_move e3_2) ?_
      refine RL.callP rfl hH2 (c_clearanceref01_Of _ _  _ (hH2.sl (i := 0) rfl)) (run_call1 Tryd.call96 rfl) ?_
      intro w13 hH14
      refine RL.val rfl (run_assign (v := U _) rfl) ?_
      refine RL.nil ?_
      refine CW.ret ?_
      refine outP1 Tryd.results111 (congrArg U ?_) hH14.below
      exact below_eq_ofl fun i a b => by rw [hl, mem_upto]; omega
  · refine RL.gF rfl rfl (bF h4) rfl ?_
    refine RL.gF rfl rfl (bF h4) rfl ?_
    refine RL.val rfl (run_pickF (bF h4) (v := B false) rfl) ?_
    refine RL.nil ?_
    refine CW.condF rfl ?_
    refine CW.exit (id := 0) rfl ?_
    refine CW.seq ?_
    refine CW.region ?_
    refine RL.val rfl (run_move e3_2) ?_
    refine RL.callP rfl hH2 (c_clearanceref01_Of _ _  _ (hH2.sl (i := 0) rfl)) (run_call1 Tryd.call96 rfl) ?_
    intro w15 hH16
    refine RL.val rfl (run_assign (v := U _) rfl) ?_
    refine RL.nil ?_
    refine CW.ret ?_
    refine outP1 Tryd.results111 (congrArg U ?_) hH16.below
    exact below_eq_ofl fun i a b => by rw [hl, mem_upto]; omega

theorem c_bits_TrailingZeros64 (s : BitVec 64) (w : World) (hT : Tab w) : Calls Tryd.prog 117 #[U s] w (Pure (I (tz s)) w) := by
  refine enter Tryd.func117 rfl Tryd.ntmps117 rfl ?_
  have hH := Hp.start w
  refine CW.seq ?_
  refine CW.region ?_
  refine RL.val rfl (run_assign (v := I 0) rfl) ?_
  refine RL.nil ?_
  refine CW.seq ?_
  refine CW.seq ?_
  refine CW.region ?_
  refine RL.val rfl (run_move (v := U _) rfl) ?_
  refine RL.val rfl (run_eqlU rfl (b := 0#64) rfl) ?_
  refine RL.nil ?_
  refine CW.condP rfl (fun h2 => ?_) (fun h2 => ?_)
  · refine CW.seq ?_
    refine CW.region ?_
    refine RL.val rfl (run_assign (v := I 64) rfl) ?_
    refine RL.nil ?_
    refine CW.ret ?_
    refine outP1 Tryd.results117 (congrArg I ?_) hH.below
    rw [‹s = 0#64›]; rfl
  · refine CW.skip ?_
    refine CW.seq ?_
    refine CW.region ?_
    refine RL.val rfl (run_move (v := U _) rfl) ?_
    refine RL.val rfl (run_move (v := U _) rfl) ?_
    refine RL.val rfl (run_negU rfl) ?_
    refine RL.val rfl (run_andU rfl rfl) ?_
    refine RL.val rfl (run_mulU rfl (b := 285870213051353865#64) rfl) ?_
    refine RL.val rfl (run_shrU rfl (b := 58#64) rfl) ?_
    refine RL.val rfl (run_indexAddrA Tryd.underlying86 Tryd.sizeOf5 rfl rfl (by exact tz_idx _)) ?_
    refine RL.val rfl (run_ld Tryd.underlying5 rfl rfl (hT.at _)) ?_
    refine RL.val rfl (run_convUI Tryd.underlying5 Tryd.underlying3 rfl (conv_bd (tztab_bd _))) ?_
    refine RL.val rfl (run_assign (v := I _) rfl) ?_
    refine RL.nil ?_
    refine CW.ret ?_
    refine outP1 Tryd.results117 (congrArg I ?_) hH.below
    exact tz_ne ‹_›

theorem c_mask_Least (s : BitVec 64) (w : World) (hT : Tab w) : Calls Tryd.prog 107 #[U s] w (Pure (.tuple #[I (leastv s).1, B (leastv s).2]) w) := by
  refine enter Tryd.func107 rfl Tryd.ntmps107 rfl ?_
  have hH := Hp.start w
  refine CW.seq ?_
  refine CW.region ?_
  refine RL.val rfl (run_assign (v := I 0) rfl) ?_
  refine RL.val rfl (run_assign (v := B false) rfl) ?_
  refine RL.nil ?_
  refine CW.seq ?_
  refine CW.seq ?_
  refine CW.region ?_
  refine RL.val rfl (run_move (v := U _) rfl) ?_
  refine RL.val rfl (run_eqlU rfl (b := 0#64) rfl) ?_
  refine RL.nil ?_
  refine CW.condP rfl (fun h2 => ?_) (fun h2 => ?_)
  · refine CW.seq ?_
    refine CW.region ?_
    refine RL.val rfl (run_assign (v := I 0) rfl) ?_
    refine RL.val rfl (run_assign (v := B false) rfl) ?_
    refine RL.nil ?_
    refine CW.ret ?_
    refine outP2 Tryd.results107 (congrArg I ?_) (congrArg B ?_) hH.below <;> rw [leastv, if_pos ‹_›]
  · refine CW.skip ?_
    refine CW.seq ?_
    refine CW.region ?_
    refine RL.val rfl (run_move (v := U _) rfl) ?_
    refine RL.callP rfl hH (c_bits_TrailingZeros64 _  _ (hT.hp hH)) (run_call1 Tryd.call117 rfl) ?_
    intro w3 hH4
    refine RL.val rfl (run_assign (v := I _) rfl) ?_
    refine RL.val rfl (run_assign (v := B true) rfl) ?_
    refine RL.nil ?_
    refine CW.ret ?_
    refine outP2 Tryd.results107 (congrArg I ?_) (congrArg B ?_) hH4.below <;> rw [leastv, if_neg ‹_›]

theorem c_mask_Each (f : FuncId) (cap : Array Value) (Inv Stop : List Int → World → Prop) (s : BitVec 64) (w : World) (hf : ∀ args w, (callFunc f args).run Tryd.prog w = .ok (.enter f args) w) (hm : ∀ l w w', Inv l w → Below w.heap.size w w' → Inv l w') (hT : ∀ l w, Inv l w → Tab w) (go : ∀ l i r w, lst s = l ++ i :: r → Inv l w → Calls Tryd.prog f (#[I i] ++ cap) w (Ret fun u w' => ∃ c : Bool, u = B c ∧ (c = true → Inv (l ++ [i]) w') ∧ (c = false → Stop (l ++ [i]) w'))) (h0 : Inv [] w) : Calls Tryd.prog 112 #[U s, .func (.func f) #[] cap] w (Ret fun u w' => u = .tuple #[] ∧ (Inv (lst s) w' ∨ ∃ l i r, lst s = l ++ i :: r ∧ Stop (l ++ [i]) w')) := by
  refine enter Tryd.func112 rfl Tryd.ntmps112 rfl ?_
  have hH := Hp.start w
  refine CW.block ?_
  refine CW.loop (G := (BitVec 64) × (List Int)) (fun (⟨s1, l⟩ : (BitVec 64) × (List Int)) s' w' => (Fr [0, 4, 5, 6, 7, 8, 9, 10, 11, 12, 13, 14] _ s') ∧ (Inv l w') ∧ (s' 0 = U s1) ∧ (lst s = l ++ lst s1)) (fun (⟨s1, l⟩ : (BitVec 64) × (List Int)) => (lst s1).length) ((s, [])) ⟨Fr.refl _ _, h0, rfl, (by simp)⟩ ?_
  rintro ⟨s1, l⟩ sg1 w1 ⟨fr1, hH1, e0_1, hl⟩
  have hI1 := hH1
  clear hH1
  have hH1 := Hp.start w1
  have e1_1 : sg1 1 = .func _ _ _ := (fr1 1 rfl).trans rfl
  refine CW.seq ?_
  refine CW.seq ?_
  refine CW.region ?_
  refine RL.val rfl (run_move e0_1) ?_
  refine RL.val rfl (run_neqU rfl (b := 0#64) rfl) ?_
  refine RL.nil ?_
  refine CW.condP rfl (fun h3 => ?_) (fun h3 => ?_)
  · refine CW.skip ?_
    refine CW.block ?_
    refine CW.seq ?_
    refine CW.seq ?_
    refine CW.region ?_
    refine RL.val rfl (run_move e1_1) ?_
    refine RL.val rfl (run_move e0_1) ?_
    refine RL.callP rfl hH1 (c_bits_TrailingZeros64 _ _ (hT _ _ hI1)) (run_call1 Tryd.call117 rfl) ?_
    intro w4 hH5
    have hI := hm _ _ _ hI1 hH5.below
    refine RL.call rfl (run_callV1 hf rfl (v1 := I (tz s1)) rfl) (go l (tz s1) (lst (s1 &&& (s1 - 1#64))) _ (by rw [hl, lst_tz ‹_›]) hI) ?_
    rintro u8 w6 ⟨c, rfl, hJ1, hJ2⟩
    have hH7 := Hp.start w6
    refine RL.val rfl (run_not rfl) ?_
    refine RL.nil ?_
    refine CW.cond rfl (fun h11 => ?_) (fun h11 => ?_)
    · refine CW.ret ?_
      exact out0 Tryd.results112 ⟨rfl, .inr ⟨l, tz s1, lst (s1 &&& (s1 - 1#64)), by rw [hl, lst_tz ‹_›], hJ2 (by simpa using ‹(!c) = true›)⟩⟩
    · refine CW.skip ?_
      refine CW.region ?_
      refine RL.val rfl (run_move e0_1) ?_
      refine RL.val rfl (run_move e0_1) ?_
      refine RL.val rfl (run_subU rfl (b := 1#64) rfl) ?_
      refine RL.val rfl (run_andU rfl rfl) ?_
      refine RL.val rfl (run_assign (v := U _) rfl) ?_
      refine RL.nil ?_
      refine ⟨(s1 &&& (s1 - 1#64), l ++ [tz s1]), ?_, (((((((((((fr1.u rfl).u rfl).u rfl).u rfl).u rfl).u rfl).u rfl).u rfl).u rfl).u rfl).u rfl).u rfl, (hJ1 (by simpa using ‹(!c) = false›)), rfl, ?_⟩
      · exact lst_clear_lt ‹_›
      · rw [hl, lst_tz ‹_›]; simp
  · refine CW.exit (id := 0) rfl ?_
    have hn : lst s1 = [] := lst_eq_nil.2 (by simpa using ‹¬ s1 ≠ 0#64›)
    exact out0 Tryd.results112 ⟨rfl, .inl (by rw [hl, hn, List.append_nil]; assumption)⟩

theorem c_mask_List_1 (W0 : World) (b : Nat) (v : Value) (l : List Int) (i : Int) (w : World) (hH : Hp W0 w [.row v 3 1 l.length (l.map I), .blk b (.cells #[v] 36 (0, 0))]) (hlen : l.length ≤ 64) : Calls Tryd.prog 113 #[I i, .pointer (some ⟨b, 0, none⟩)] w (Ret fun u w' => u = B true ∧ ∃ v', Hp W0 w' [.row v' 3 1 (l ++ [i]).length ((l ++ [i]).map I), .blk b (.cells #[v'] 36 (0, 0))]) := by
  refine enter Tryd.func113 rfl Tryd.ntmps113 rfl ?_
  refine CW.seq ?_
  refine CW.region ?_
  refine RL.val rfl (run_assign (v := B false) rfl) ?_
  refine RL.nil ?_
  refine CW.seq ?_
  refine CW.region ?_
  refine RL.val rfl (run_ld Tryd.underlying36 rfl rfl (hH.cell (i := 1) rfl rfl)) ?_
  refine RL.val rfl (run_move (v := I _) rfl) ?_
  refine RL.new rfl hH (f := fun b => (.slice (some ⟨b, 0, none⟩) 1 1)) (run_mkL Tryd.underlying36 rfl rfl (sz := 1) (vs := [I _]) rfl rfl (by decide) (by decide) rfl rfl) ?_
  intro b3 w1 hH2
  (try simp only [List.flatMap_cons, List.flatMap_nil, clI, clB, clS, clP, clL, clA, List.append_nil, List.cons_append, List.nil_append] at hH2)
  refine RL.app rfl hH2 (i := 1) rfl (hH2.slBlk (i := 0) (n := 1) (sz := 1) rfl rfl (by decide)) rfl rfl Tryd.underlying36 rfl rfl (size := 1) (bytes := 8) rfl rfl rfl (by decide) (by simp [Value.oneCell']) (by omega) (by simp only [maxLen]; omega) ?_
  intro v4 w5 hH6
  simp only [List.set_cons_zero, List.set_cons_succ] at hH6
  refine RL.set hH6 (i := 2) rfl (run_st rfl rfl (by conv => lhs; whnf) (row_cells (hH6.get (i := 1) rfl)).1 (row_cells (hH6.get (i := 1) rfl)).2 (hH6.blk (i := 2) rfl) (by first | decide | simp)) ?_
  intro w7 hH8
  simp only [List.set_cons_zero, List.set_cons_succ] at hH8
  refine RL.nil ?_
  refine CW.seq ?_
  refine CW.region ?_
  refine RL.val rfl (run_assign (v := B true) rfl) ?_
  refine RL.nil ?_
  refine CW.ret ?_
  exact out1 Tryd.results113 rfl ⟨rfl, (v4 : Value), Hp.conv hH8.tail (by simp)⟩

theorem c_mask_List (s : BitVec 64) (w : World) (hT : Tab w) : Calls Tryd.prog 84 #[U s] w (PureRow 3 1 (lst s).length ((lst s).map I) w) := by
  refine enter Tryd.func84 rfl Tryd.ntmps84 rfl ?_
  have hH := Hp.start w
  refine CW.seq ?_
  refine CW.region ?_
  refine RL.val rfl (run_assign (v := .slice none 0 0) rfl) ?_
  refine RL.nil ?_
  refine CW.seq ?_
  refine CW.region ?_
  refine RL.new rfl hH (f := fun b => (.pointer (some ⟨b, 0, none⟩))) (run_alloc Tryd.zeroValue36) ?_
  intro b3 w1 hH2
  have hH4 := hH2.nilRow 3 1
  refine RL.nil ?_
  refine CW.seq ?_
  refine CW.region ?_
  refine RL.val rfl (run_move (v := U _) rfl) ?_
  refine RL.val rfl (run_mkF1 (by conv => lhs; whnf)) ?_
  refine RL.call rfl (run_call2 Tryd.call112 (v1 := U s) rfl (v2 := .func (.func 113) #[] #[.pointer (some ⟨b3, 0, none⟩)]) rfl) (c_mask_Each 113 _ (fun l w' => ∃ v, Hp w w' [.row v 3 1 l.length (l.map I), .blk b3 (.cells #[v] 36 (0, 0))]) (fun _ _ => False) s _ Tryd.call113 (fun l w' w'' h hb => h.imp fun v h => h.call hb) (fun l w' h => h.elim fun v h => hT.hp h) (fun l i r w' he h => h.elim fun v h => by
      have hl64 : l.length ≤ 64 := by have := lst_len s; rw [he] at this; simp at this; omega
      have hc := c_mask_List_1 w b3 v l i w' h hl64
      refine Ret.calls hc ?_
      intro u w2 hq
      exact ⟨true, hq.1, fun _ => hq.2, fun h => by cases h⟩) ⟨.slice none 0 0, hH4⟩) ?_
  rintro u w5 ⟨rfl, hor⟩
  obtain ⟨v7, hH6⟩ := hor.resolve_right (fun ⟨_, _, _, _, h⟩ => h)
  refine RL.nil ?_
  refine CW.seq ?_
  refine CW.region ?_
  refine RL.val rfl (run_ld Tryd.underlying36 rfl rfl (hH6.cell (i := 1) rfl rfl)) ?_
  refine RL.val rfl (run_assign (by conv => lhs; whnf)) ?_
  refine RL.nil ?_
  refine CW.ret ?_
  exact outR Tryd.results84 rfl hH6 (i := 0) rfl (rfl) (rfl)

theorem c_clearanceref03_Points (r : Rl) (w : World) : Calls Tryd.prog 25 #[.agg (relC r)] w (Pure (I (pts r)) w) := by
  refine enter Tryd.func25 rfl Tryd.ntmps25 rfl ?_
  have hH := Hp.start w
  refine CW.seq ?_
  refine CW.region ?_
  refine RL.new rfl hH (f := fun b => (.pointer (some ⟨b, 0, none⟩))) (run_box (v := .agg _) rfl) ?_
  intro b3 w1 hH2
  refine RL.val rfl (run_assign (v := I 0) rfl) ?_
  refine RL.nil ?_
  refine CW.seq ?_
  refine CW.seq ?_
  refine CW.region ?_
  refine RL.val rfl (run_fieldAddr Tryd.underlying25 rfl (off := 0) rfl Tryd.sizeOf3 (by decide) rfl) ?_
  refine RL.val rfl (run_ld Tryd.underlying3 rfl rfl (hH2.cell (i := 0) rfl (relC_N _))) ?_
  refine RL.val rfl (run_lss rfl rfl) ?_
  refine RL.nil ?_
  refine CW.condP rfl (fun h5 => ?_) (fun h5 => ?_)
  · refine CW.seq ?_
    refine CW.region ?_
    refine RL.val rfl (run_assign (v := I 0) rfl) ?_
    refine RL.nil ?_
    refine CW.ret ?_
    refine outP1 Tryd.results25 (congrArg I ?_) hH2.below
    (unfold pts; omega)
  · refine CW.skip ?_
    refine CW.seq ?_
    refine CW.seq ?_
    refine CW.region ?_
    refine RL.val rfl (run_fieldAddr Tryd.underlying25 rfl (off := 0) rfl Tryd.sizeOf3 (by decide) rfl) ?_
    refine RL.val rfl (run_ld Tryd.underlying3 rfl rfl (hH2.cell (i := 0) rfl (relC_N _))) ?_
    refine RL.val rfl (run_gtr rfl rfl) ?_
    refine RL.nil ?_
    refine CW.condP rfl (fun h7 => ?_) (fun h7 => ?_)
    · refine CW.seq ?_
      refine CW.region ?_
      refine RL.val rfl (run_assign (v := I 64) rfl) ?_
      refine RL.nil ?_
      refine CW.ret ?_
      refine outP1 Tryd.results25 (congrArg I ?_) hH2.below
      (unfold pts; omega)
    · refine CW.skip ?_
      refine CW.seq ?_
      refine CW.region ?_
      refine RL.val rfl (run_fieldAddr Tryd.underlying25 rfl (off := 0) rfl Tryd.sizeOf3 (by decide) rfl) ?_
      refine RL.val rfl (run_ld Tryd.underlying3 rfl rfl (hH2.cell (i := 0) rfl (relC_N _))) ?_
      refine RL.val rfl (run_assign (v := I _) rfl) ?_
      refine RL.nil ?_
      refine CW.ret ?_
      refine outP1 Tryd.results25 (congrArg I ?_) hH2.below
      (unfold pts; omega)

theorem c_relate_points (r : Rl) (w : World) : Calls Tryd.prog 93 #[.agg (relC r)] w (Pure (I (pts r)) w) := by
  refine enter Tryd.func93 rfl Tryd.ntmps93 rfl ?_
  have hH := Hp.start w
  refine CW.seq ?_
  refine CW.region ?_
  refine RL.new rfl hH (f := fun b => (.pointer (some ⟨b, 0, none⟩))) (run_box (v := .agg _) rfl) ?_
  intro b3 w1 hH2
  refine RL.val rfl (run_assign (v := I 0) rfl) ?_
  refine RL.nil ?_
  refine CW.seq ?_
  refine CW.region ?_
  refine RL.val rfl (run_fieldAddr Tryd.underlying25 rfl (off := 0) rfl Tryd.sizeOf3 (by decide) rfl) ?_
  refine RL.val rfl (run_ld Tryd.underlying3 rfl rfl (hH2.cell (i := 0) rfl (relC_N _))) ?_
  refine RL.val rfl (run_minI rfl rfl) ?_
  refine RL.val rfl (run_maxI rfl rfl) ?_
  refine RL.val rfl (run_assign (v := I _) rfl) ?_
  refine RL.nil ?_
  refine CW.ret ?_
  refine outP1 Tryd.results93 (congrArg I ?_) hH2.below
  rfl

theorem c_relate_is (r : Rl) (i : Int) (w : World) : Calls Tryd.prog 95 #[.agg (relC r), I i] w (Pure (B (isP r i)) w) := by
  refine enter Tryd.func95 rfl Tryd.ntmps95 rfl ?_
  have hH := Hp.start w
  refine CW.seq ?_
  refine CW.region ?_
  refine RL.new rfl hH (f := fun b => (.pointer (some ⟨b, 0, none⟩))) (run_box (v := .agg _) rfl) ?_
  intro b3 w1 hH2
  refine RL.val rfl (run_assign (v := B false) rfl) ?_
  refine RL.nil ?_
  refine CW.seq ?_
  refine CW.region ?_
  refine RL.val rfl (run_move (v := I _) rfl) ?_
  refine RL.val rfl (run_geq rfl rfl) ?_
  refine RL.val rfl (run_move (v := B _) rfl) ?_
  refine RL.splitP (dj := 7) rfl (fun h5 => ?_) (fun h5 => ?_)
  · refine RL.gT rfl (bT h5) ?_
    refine RL.val rfl (run_move (v := I _) rfl) ?_
    refine RL.gT rfl (bT h5) ?_
    refine RL.val rfl (run_ldRel Tryd.underlying25 rfl rfl rfl (hH2.blk (i := 0) rfl)) ?_
    refine RL.gT rfl (bT h5) ?_
    refine RL.callP rfl hH2 (c_relate_points _  _) (run_call1 Tryd.call93 rfl) ?_
    intro w6 hH7
    refine RL.gT rfl (bT h5) ?_
    refine RL.val rfl (run_lss rfl rfl) ?_
    refine RL.val rfl (run_pickT (bT h5) (v := B _) rfl) ?_
    refine RL.val rfl (run_assign (v := B _) rfl) ?_
    refine RL.nil ?_
    refine CW.ret ?_
    refine outP1 Tryd.results95 (congrArg B ?_) hH7.below
    (simp [isP]; try omega)
  · refine RL.gF rfl rfl (bF h5) rfl ?_
    refine RL.gF rfl rfl (bF h5) rfl ?_
    refine RL.gF rfl rfl (bF h5) rfl ?_
    refine RL.gF rfl rfl (bF h5) rfl ?_
    refine RL.val rfl (run_pickF (bF h5) (v := B false) rfl) ?_
    refine RL.val rfl (run_assign (v := B _) rfl) ?_
    refine RL.nil ?_
    refine CW.ret ?_
    refine outP1 Tryd.results95 (congrArg B ?_) hH2.below
    (simp [isP]; try omega)

theorem c_clearanceref03_Has (r : Rl) (i j : Int) (w : World) : Calls Tryd.prog 26 #[.agg (relC r), I i, I j] w (Pure (B (hasR r i j)) w) := by
  have hp := pts_bd r
  refine enter Tryd.func26 rfl Tryd.ntmps26 rfl ?_
  have hH := Hp.start w
  refine CW.seq ?_
  refine CW.region ?_
  refine RL.new rfl hH (f := fun b => (.pointer (some ⟨b, 0, none⟩))) (run_box (v := .agg _) rfl) ?_
  intro b3 w1 hH2
  refine RL.val rfl (run_assign (v := B false) rfl) ?_
  refine RL.nil ?_
  refine CW.seq ?_
  refine CW.region ?_
  refine RL.val rfl (run_ldRel Tryd.underlying25 rfl rfl rfl (hH2.blk (i := 0) rfl)) ?_
  refine RL.callP rfl hH2 (c_clearanceref03_Points _  _) (run_call1 Tryd.call25 rfl) ?_
  intro w4 hH5
  refine RL.val rfl (run_assign (v := I _) rfl) ?_
  refine RL.nil ?_
  refine CW.seq ?_
  refine CW.region ?_
  refine RL.val rfl (run_move (v := I _) rfl) ?_
  refine RL.val rfl (run_geq rfl rfl) ?_
  refine RL.val rfl (run_move (v := B _) rfl) ?_
  refine RL.splitP (dj := 12) rfl (fun h7 => ?_) (fun h7 => ?_)
  · refine RL.gT rfl (bT h7) ?_
    refine RL.val rfl (run_move (v := I _) rfl) ?_
    refine RL.gT rfl (bT h7) ?_
    refine RL.val rfl (run_geq rfl rfl) ?_
    refine RL.val rfl (run_pickT (bT h7) (v := B _) rfl) ?_
    refine RL.val rfl (run_move (v := B _) rfl) ?_
    refine RL.splitP (dj := 16) rfl (fun h9 => ?_) (fun h9 => ?_)
    · refine RL.gT rfl (bT h9) ?_
      refine RL.val rfl (run_move (v := I _) rfl) ?_
      refine RL.gT rfl (bT h9) ?_
      refine RL.val rfl (run_move (v := I _) rfl) ?_
      refine RL.gT rfl (bT h9) ?_
      refine RL.val rfl (run_lss rfl rfl) ?_
      refine RL.val rfl (run_pickT (bT h9) (v := B _) rfl) ?_
      refine RL.val rfl (run_move (v := B _) rfl) ?_
      refine RL.splitP (dj := 21) rfl (fun h11 => ?_) (fun h11 => ?_)
      · refine RL.gT rfl (bT h11) ?_
        refine RL.val rfl (run_move (v := I _) rfl) ?_
        refine RL.gT rfl (bT h11) ?_
        refine RL.val rfl (run_move (v := I _) rfl) ?_
        refine RL.gT rfl (bT h11) ?_
        refine RL.val rfl (run_lss rfl rfl) ?_
        refine RL.val rfl (run_pickT (bT h11) (v := B _) rfl) ?_
        refine RL.val rfl (run_move (v := B _) rfl) ?_
        refine RL.splitP (dj := 26) rfl (fun h13 => ?_) (fun h13 => ?_)
        · refine RL.gT rfl (bT h13) ?_
          refine RL.val rfl (run_move (v := I _) rfl) ?_
          refine RL.gT rfl (bT h13) ?_
          refine RL.val rfl (run_fieldAddr Tryd.underlying25 rfl (off := 1) rfl Tryd.sizeOf23 (by decide) rfl) ?_
          refine RL.gT rfl (bT h13) ?_
          refine RL.val rfl (run_indexAddrA Tryd.underlying23 Tryd.sizeOf22 rfl rfl (by omega)) ?_
          refine RL.gT rfl (bT h13) ?_
          refine RL.val rfl (run_ld Tryd.underlying22 rfl rfl (hH5.cell (i := 0) rfl (relC_up _ (by omega)))) ?_
          refine RL.gT rfl (bT h13) ?_
          refine RL.val rfl (run_move (v := I _) rfl) ?_
          refine RL.gT rfl (bT h13) ?_
          refine RL.val rfl (run_convIU Tryd.underlying3 Tryd.underlying74 rfl) ?_
          refine RL.gT rfl (bT h13) ?_
          refine RL.val rfl (run_shrU rfl rfl) ?_
          refine RL.gT rfl (bT h13) ?_
          refine RL.val rfl (run_remU rfl (b := 2#64) rfl (by decide)) ?_
          refine RL.gT rfl (bT h13) ?_
          refine RL.val rfl (run_eqlU rfl (b := 1#64) rfl) ?_
          refine RL.val rfl (run_pickT (bT h13) (v := B _) rfl) ?_
          refine RL.val rfl (run_assign (v := B _) rfl) ?_
          refine RL.nil ?_
          refine CW.ret ?_
          refine outP1 Tryd.results26 (congrArg B ?_) hH5.below
          first | exact has_ref (by omega) (by omega) (by omega) (by omega) | exact (has_out (by omega)).symm
        · refine RL.gF rfl rfl (bF h13) rfl ?_
          refine RL.gF rfl rfl (bF h13) rfl ?_
          refine RL.gF rfl rfl (bF h13) rfl ?_
          refine RL.gF rfl rfl (bF h13) rfl ?_
          refine RL.gF rfl rfl (bF h13) rfl ?_
          refine RL.gF rfl rfl (bF h13) rfl ?_
          refine RL.gF rfl rfl (bF h13) rfl ?_
          refine RL.gF rfl rfl (bF h13) rfl ?_
          refine RL.gF rfl rfl (bF h13) rfl ?_
          refine RL.val rfl (run_pickF (bF h13) (v := B false) rfl) ?_
          refine RL.val rfl (run_assign (v := B _) rfl) ?_
          refine RL.nil ?_
          refine CW.ret ?_
          refine outP1 Tryd.results26 (congrArg B ?_) hH5.below
          first | exact has_ref (by omega) (by omega) (by omega) (by omega) | exact (has_out (by omega)).symm
      · refine RL.gF rfl rfl (bF h11) rfl ?_
        refine RL.gF rfl rfl (bF h11) rfl ?_
        refine RL.gF rfl rfl (bF h11) rfl ?_
        refine RL.val rfl (run_pickF (bF h11) (v := B false) rfl) ?_
        refine RL.val rfl (run_move (v := B _) rfl) ?_
        refine RL.gF rfl rfl rfl rfl ?_
        refine RL.gF rfl rfl rfl rfl ?_
        refine RL.gF rfl rfl rfl rfl ?_
        refine RL.gF rfl rfl rfl rfl ?_
        refine RL.gF rfl rfl rfl rfl ?_
        refine RL.gF rfl rfl rfl rfl ?_
        refine RL.gF rfl rfl rfl rfl ?_
        refine RL.gF rfl rfl rfl rfl ?_
        refine RL.gF rfl rfl rfl rfl ?_
        refine RL.val rfl (run_pickF rfl (v := B false) rfl) ?_
        refine RL.val rfl (run_assign (v := B _) rfl) ?_
        refine RL.nil ?_
        refine CW.ret ?_
        refine outP1 Tryd.results26 (congrArg B ?_) hH5.below
        first | exact has_ref (by omega) (by omega) (by omega) (by omega) | exact (has_out (by omega)).symm
    · refine RL.gF rfl rfl (bF h9) rfl ?_
      refine RL.gF rfl rfl (bF h9) rfl ?_
      refine RL.gF rfl rfl (bF h9) rfl ?_
      refine RL.val rfl (run_pickF (bF h9) (v := B false) rfl) ?_
      refine RL.val rfl (run_move (v := B _) rfl) ?_
      refine RL.gF rfl rfl rfl rfl ?_
      refine RL.gF rfl rfl rfl rfl ?_
      refine RL.gF rfl rfl rfl rfl ?_
      refine RL.val rfl (run_pickF rfl (v := B false) rfl) ?_
      refine RL.val rfl (run_move (v := B _) rfl) ?_
      refine RL.gF rfl rfl rfl rfl ?_
      refine RL.gF rfl rfl rfl rfl ?_
      refine RL.gF rfl rfl rfl rfl ?_
      refine RL.gF rfl rfl rfl rfl ?_
      refine RL.gF rfl rfl rfl rfl ?_
      refine RL.gF rfl rfl rfl rfl ?_
      refine RL.gF rfl rfl rfl rfl ?_
      refine RL.gF rfl rfl rfl rfl ?_
      refine RL.gF rfl rfl rfl rfl ?_
      refine RL.val rfl (run_pickF rfl (v := B false) rfl) ?_
      refine RL.val rfl (run_assign (v := B _) rfl) ?_
      refine RL.nil ?_
      refine CW.ret ?_
      refine outP1 Tryd.results26 (congrArg B ?_) hH5.below
      first | exact has_ref (by omega) (by omega) (by omega) (by omega) | exact (has_out (by omega)).symm
  · refine RL.gF rfl rfl (bF h7) rfl ?_
    refine RL.gF rfl rfl (bF h7) rfl ?_
    refine RL.val rfl (run_pickF (bF h7) (v := B false) rfl) ?_
    refine RL.val rfl (run_move (v := B _) rfl) ?_
    refine RL.gF rfl rfl rfl rfl ?_
    refine RL.gF rfl rfl rfl rfl ?_
    refine RL.gF rfl rfl rfl rfl ?_
    refine RL.val rfl (run_pickF rfl (v := B false) rfl) ?_
    refine RL.val rfl (run_move (v := B _) rfl) ?_
    refine RL.gF rfl rfl rfl rfl ?_
    refine RL.gF rfl rfl rfl rfl ?_
    refine RL.gF rfl rfl rfl rfl ?_
    refine RL.val rfl (run_pickF rfl (v := B false) rfl) ?_
    refine RL.val rfl (run_move (v := B _) rfl) ?_
    refine RL.gF rfl rfl rfl rfl ?_
    refine RL.gF rfl rfl rfl rfl ?_
    refine RL.gF rfl rfl rfl rfl ?_
    refine RL.gF rfl rfl rfl rfl ?_
    refine RL.gF rfl rfl rfl rfl ?_
    refine RL.gF rfl rfl rfl rfl ?_
    refine RL.gF rfl rfl rfl rfl ?_
    refine RL.gF rfl rfl rfl rfl ?_
    refine RL.gF rfl rfl rfl rfl ?_
    refine RL.val rfl (run_pickF rfl (v := B false) rfl) ?_
    refine RL.val rfl (run_assign (v := B _) rfl) ?_
    refine RL.nil ?_
    refine CW.ret ?_
    refine outP1 Tryd.results26 (congrArg B ?_) hH5.below
    first | exact has_ref (by omega) (by omega) (by omega) (by omega) | exact (has_out (by omega)).symm

theorem c_relate_Has (r : Rl) (i j : Int) (w : World) : Calls Tryd.prog 35 #[.agg (relC r), I i, I j] w (Pure (B (hasR r i j)) w) := by
  refine enter Tryd.func35 rfl Tryd.ntmps35 rfl ?_
  have hH := Hp.start w
  refine CW.seq ?_
  refine CW.region ?_
  refine RL.new rfl hH (f := fun b => (.pointer (some ⟨b, 0, none⟩))) (run_box (v := .agg _) rfl) ?_
  intro b3 w1 hH2
  refine RL.val rfl (run_assign (v := B false) rfl) ?_
  refine RL.nil ?_
  refine CW.seq ?_
  refine CW.region ?_
  refine RL.val rfl (run_ldRel Tryd.underlying25 rfl rfl rfl (hH2.blk (i := 0) rfl)) ?_
  refine RL.val rfl (run_move (v := I _) rfl) ?_
  refine RL.callP rfl hH2 (c_relate_is _ _  _) (run_call2 Tryd.call95 rfl rfl) ?_
  intro w4 hH5
  refine RL.val rfl (run_move (v := B _) rfl) ?_
  refine RL.split (dj := 10) rfl (fun h7 => ?_) (fun h7 => ?_)
  · refine RL.gT rfl (bR (c := true) h7) ?_
    refine RL.val rfl (run_ldRel Tryd.underlying25 rfl rfl rfl (hH5.blk (i := 0) rfl)) ?_
    refine RL.gT rfl (bR (c := true) h7) ?_
    refine RL.val rfl (run_move (v := I _) rfl) ?_
    refine RL.gT rfl (bR (c := true) h7) ?_
    refine RL.callP rfl hH5 (c_relate_is _ _  _) (run_call2 Tryd.call95 rfl rfl) ?_
    intro w8 hH9
    refine RL.val rfl (run_pickT (bR (c := true) h7) (v := B _) rfl) ?_
    refine RL.val rfl (run_move (v := B _) rfl) ?_
    refine RL.split (dj := 15) rfl (fun h11 => ?_) (fun h11 => ?_)
    · refine RL.gT rfl (bR (c := true) h11) ?_
      refine RL.val rfl (run_move (v := I _) rfl) ?_
      refine RL.gT rfl (bR (c := true) h11) ?_
      refine RL.val rfl (run_fieldAddr Tryd.underlying25 rfl (off := 1) rfl Tryd.sizeOf23 (by decide) rfl) ?_
      refine RL.gT rfl (bR (c := true) h11) ?_
      refine RL.val rfl (run_indexAddrA Tryd.underlying23 Tryd.sizeOf22 rfl rfl (by exact isP_lt ‹isP r i = true›)) ?_
      refine RL.gT rfl (bR (c := true) h11) ?_
      refine RL.val rfl (run_ld Tryd.underlying22 rfl rfl (hH9.cell (i := 0) rfl (relC_up _ (by have := isP_lt ‹isP r i = true›; omega)))) ?_
      refine RL.gT rfl (bR (c := true) h11) ?_
      refine RL.val rfl (run_move (v := I _) rfl) ?_
      refine RL.gT rfl (bR (c := true) h11) ?_
      refine RL.callP rfl hH9 (c_mask_Has _ _  _) (run_call2 Tryd.call91 rfl rfl) ?_
      intro w12 hH13
      refine RL.val rfl (run_pickT (bR (c := true) h11) (v := B _) rfl) ?_
      refine RL.val rfl (run_assign (v := B _) rfl) ?_
      refine RL.nil ?_
      refine CW.ret ?_
      refine outP1 Tryd.results35 (congrArg B ?_) hH13.below
      first | exact has_yes ‹_› ‹_› | exact (has_noI ‹_›).symm | exact (has_noJ ‹_›).symm
    · refine RL.gF rfl rfl (bR (c := false) h11) rfl ?_
      refine RL.gF rfl rfl (bR (c := false) h11) rfl ?_
      refine RL.gF rfl rfl (bR (c := false) h11) rfl ?_
      refine RL.gF rfl rfl (bR (c := false) h11) rfl ?_
      refine RL.gF rfl rfl (bR (c := false) h11) rfl ?_
      refine RL.gF rfl rfl (bR (c := false) h11) rfl ?_
      refine RL.val rfl (run_pickF (bR (c := false) h11) (v := B false) rfl) ?_
      refine RL.val rfl (run_assign (v := B _) rfl) ?_
      refine RL.nil ?_
      refine CW.ret ?_
      refine outP1 Tryd.results35 (congrArg B ?_) hH9.below
      first | exact has_yes ‹_› ‹_› | exact (has_noI ‹_›).symm | exact (has_noJ ‹_›).symm
  · refine RL.gF rfl rfl (bR (c := false) h7) rfl ?_
    refine RL.gF rfl rfl (bR (c := false) h7) rfl ?_
    refine RL.gF rfl rfl (bR (c := false) h7) rfl ?_
    refine RL.val rfl (run_pickF (bR (c := false) h7) (v := B false) rfl) ?_
    refine RL.val rfl (run_move (v := B _) rfl) ?_
    refine RL.gF rfl rfl rfl rfl ?_
    refine RL.gF rfl rfl rfl rfl ?_
    refine RL.gF rfl rfl rfl rfl ?_
    refine RL.gF rfl rfl rfl rfl ?_
    refine RL.gF rfl rfl rfl rfl ?_
    refine RL.gF rfl rfl rfl rfl ?_
    refine RL.val rfl (run_pickF rfl (v := B false) rfl) ?_
    refine RL.val rfl (run_assign (v := B _) rfl) ?_
    refine RL.nil ?_
    refine CW.ret ?_
    refine outP1 Tryd.results35 (congrArg B ?_) hH5.below
    first | exact has_yes ‹_› ‹_› | exact (has_noI ‹_›).symm | exact (has_noJ ‹_›).symm

theorem c_clearanceref03_In (v : Value) (l : List Int) (x : Int) (w : World) (hs : Sl w v 1 l.length (l.map I)) : Calls Tryd.prog 27 #[v, I x] w (Pure (B (l.contains x)) w) := by
  have hm := hs.small
  unfold maxLen at hm
  refine enter Tryd.func27 rfl Tryd.ntmps27 rfl ?_
  have hH := Hp.start w
  refine CW.seq ?_
  refine CW.region ?_
  refine RL.val rfl (run_assign (v := B false) rfl) ?_
  refine RL.nil ?_
  refine CW.seq ?_
  refine CW.seq ?_
  refine CW.region ?_
  refine RL.val rfl (run_assign (v := I 0) rfl) ?_
  refine RL.nil ?_
  refine CW.block ?_
  refine CW.loop (G := (Int)) (fun (k : Int) s' w' => (Fr [4, 5, 6, 7, 8, 9, 10, 11, 12, 13, 14, 15, 16, 17] _ s') ∧ (Hp w w' _) ∧ (s' 5 = I k) ∧ (0 ≤ k) ∧ (k ≤ l.length) ∧ (∀ j : Int, 0 ≤ j → j < k → l.getD j.toNat 0 ≠ x)) (fun (k : Int) => (l.length - k).toNat) (0) ⟨Fr.refl _ _, hH, rfl, (by omega), (by omega), fun j a b => absurd b (by omega)⟩ ?_
  rintro k sg1 w1 ⟨fr1, hH1, e5_1, h0, hk, hf⟩
  have e0_1 := (fr1 0 rfl).trans (by conv => lhs; whnf)
  have e1_1 : sg1 1 = I _ := (fr1 1 rfl).trans rfl
  refine CW.seq ?_
  refine CW.seq ?_
  refine CW.region ?_
  refine RL.val rfl (run_move e5_1) ?_
  refine RL.val rfl (run_move e0_1) ?_
  refine RL.val rfl (run_lenSl (hs.hp hH1) rfl Tryd.underlying36 rfl) ?_
  refine RL.val rfl (run_lss rfl rfl) ?_
  refine RL.nil ?_
  refine CW.condP rfl (fun h3 => ?_) (fun h3 => ?_)
  · refine CW.skip ?_
    refine CW.seq ?_
    refine CW.block ?_
    refine CW.seq ?_
    refine CW.region ?_
    refine RL.val rfl (run_move e0_1) ?_
    refine RL.val rfl (run_move e5_1) ?_
    refine RL.val rfl (run_indexAddrS (hs.hp hH1) Tryd.underlying36 Tryd.sizeOf3 rfl rfl (by omega)) ?_
    refine RL.val rfl (run_ld Tryd.underlying3 rfl rfl ((hs.hp hH1).cell _ _ (map_at (by omega)))) ?_
    refine RL.val rfl (run_move e1_1) ?_
    refine RL.val rfl (run_eql rfl rfl) ?_
    refine RL.nil ?_
    refine CW.condP rfl (fun h5 => ?_) (fun h5 => ?_)
    · refine CW.seq ?_
      refine CW.region ?_
      refine RL.val rfl (run_assign (v := B true) rfl) ?_
      refine RL.nil ?_
      refine CW.ret ?_
      refine outP1 Tryd.results27 (congrArg B ?_) hH1.below
      (exact (in_yes h0 ‹_› ‹_›).symm)
    · refine CW.skip ?_
      refine CW.region ?_
      refine RL.val rfl (run_move e5_1) ?_
      refine RL.val rfl (run_add rfl rfl (by omega)) ?_
      refine RL.val rfl (run_assign (v := I _) rfl) ?_
      refine RL.nil ?_
      refine ⟨k + 1, ?_, ((((((((((((fr1.u rfl).u rfl).u rfl).u rfl).u rfl).u rfl).u rfl).u rfl).u rfl).u rfl).u rfl).u rfl).u rfl, hH1, (congrArg I (by first | rfl | omega)), ?_, ?_, ?_⟩
      · ((try dsimp only); omega)
      · omega
      · omega
      · exact fun j a b => if e : j = k then e ▸ ‹¬ l.getD k.toNat 0 = x› else hf j a (by omega)
  · refine CW.exit (id := 0) rfl ?_
    refine CW.seq ?_
    refine CW.region ?_
    refine RL.val rfl (run_assign (v := B false) rfl) ?_
    refine RL.nil ?_
    refine CW.ret ?_
    refine outP1 Tryd.results27 (congrArg B ?_) hH1.below
    (exact (in_no fun j a b => hf j a (by omega)).symm)

theorem c_relate_row (r : Rl) (i : Int) (hi : 0 ≤ i ∧ i < 64) (w : World) : Calls Tryd.prog 94 #[.agg (relC r), I i] w (Pure (U (rowR r i)) w) := by
  refine enter Tryd.func94 rfl Tryd.ntmps94 rfl ?_
  have hH := Hp.start w
  refine CW.seq ?_
  refine CW.region ?_
  refine RL.new rfl hH (f := fun b => (.pointer (some ⟨b, 0, none⟩))) (run_box (v := .agg _) rfl) ?_
  intro b3 w1 hH2
  refine RL.val rfl (run_assign (v := U 0#64) rfl) ?_
  refine RL.nil ?_
  refine CW.seq ?_
  refine CW.regionD (by kernel_rfl) hH2 ?_
  intro w4 hH5
  refine AN.take 0 rfl rfl (by kernel_rfl) (by kernel_rfl) (by kernel_rfl) (hH5.sub (List.Sublist.refl _)) (fun w hS => run_move (v := I _) rfl) ?_
  refine AN.take 1 rfl rfl (by kernel_rfl) (by kernel_rfl) (by kernel_rfl) (hH5.sub (List.Sublist.refl _)) (fun w hS => run_fieldAddr Tryd.underlying25 rfl (off := 1) rfl Tryd.sizeOf23 (by decide) rfl) ?_
  refine AN.take 2 rfl rfl (by kernel_rfl) (by kernel_rfl) (by kernel_rfl) (hH5.sub (List.Sublist.refl _)) (fun w hS => run_indexAddrA Tryd.underlying23 Tryd.sizeOf22 rfl rfl (by omega)) ?_
  refine AN.take 3 rfl rfl (by kernel_rfl) (by kernel_rfl) (by kernel_rfl) (hH5.sub (List.Sublist.refl _)) (fun w hS => run_ld Tryd.underlying22 rfl rfl (hS.cell (i := 0) rfl (relC_up _ (by omega)))) ?_
  refine AN.take 4 rfl rfl (by kernel_rfl) (by kernel_rfl) (by kernel_rfl) (hH5.sub (List.Sublist.refl _)) (fun w hS => run_ldRel Tryd.underlying25 rfl rfl rfl (hS.blk (i := 0) rfl)) ?_
  refine AN.one 5 (by kernel_rfl) ?_
  refine AO.callP rfl gnone rfl hH5 (List.Sublist.refl _) (c_relate_points _  _) (run_call1 Tryd.call93 rfl) ?_
  intro w6 hH7
  refine AN.one 6 (by kernel_rfl) ?_
  refine AO.callP rfl gnone rfl hH7 (List.Sublist.refl _) (c_mask_Below _  _) (run_call1 Tryd.call92 rfl) ?_
  intro w8 hH9
  refine AN.take 7 rfl rfl (by kernel_rfl) (by kernel_rfl) (by kernel_rfl) (hH9.sub (List.Sublist.refl _)) (fun w hS => run_andU rfl rfl) ?_
  refine AN.take 8 rfl rfl (by kernel_rfl) (by kernel_rfl) (by kernel_rfl) (hH9.sub (List.Sublist.refl _)) (fun w hS => run_assign (v := U _) rfl) ?_
  refine AN.done (by kernel_rfl) ?_
  refine CW.ret ?_
  refine outP1 Tryd.results94 (congrArg U ?_) hH9.below
  rfl

theorem c_relate_strict (r : Rl) (i : Int) (hi : 0 ≤ i ∧ i < 64) (w : World) : Calls Tryd.prog 97 #[.agg (relC r), I i] w (Pure (U (strictR r i)) w) := by
  refine enter Tryd.func97 rfl Tryd.ntmps97 rfl ?_
  have hH := Hp.start w
  refine CW.seq ?_
  refine CW.region ?_
  refine RL.new rfl hH (f := fun b => (.pointer (some ⟨b, 0, none⟩))) (run_box (v := .agg _) rfl) ?_
  intro b3 w1 hH2
  refine RL.val rfl (run_assign (v := U 0#64) rfl) ?_
  refine RL.nil ?_
  refine CW.seq ?_
  refine CW.region ?_
  refine RL.val rfl (run_ldRel Tryd.underlying25 rfl rfl rfl (hH2.blk (i := 0) rfl)) ?_
  refine RL.val rfl (run_move (v := I _) rfl) ?_
  refine RL.callP rfl hH2 (c_relate_row _ _ (by first | assumption | omega | (dsimp only at *; omega) | exact lst_at_bd (by assumption) (by assumption) | exact low_bd (lst_at (by assumption) (by assumption))) _) (run_call2 Tryd.call94 rfl rfl) ?_
  intro w4 hH5
  refine RL.val rfl (run_move (v := I _) rfl) ?_
  refine RL.callP rfl hH5 (c_mask_Without _ _  _) (run_call2 Tryd.call116 rfl rfl) ?_
  intro w6 hH7
  refine RL.val rfl (run_assign (v := U _) rfl) ?_
  refine RL.nil ?_
  refine CW.ret ?_
  refine outP1 Tryd.results97 (congrArg U ?_) hH7.below
  rfl

theorem c_relate_plain (r : Rl) (w : World) : Calls Tryd.prog 89 #[.agg (relC r)] w (Pure (.agg (relC (plainR r))) w) := by
  have hp := pts_bd r
  refine enter Tryd.func89 rfl Tryd.ntmps89 rfl ?_
  have hH := Hp.start w
  refine CW.seq ?_
  refine CW.region ?_
  refine RL.new rfl hH (f := fun b => (.pointer (some ⟨b, 0, none⟩))) (run_box (v := .agg _) rfl) ?_
  intro b3 w1 hH2
  refine RL.new rfl hH2 (f := fun b => (.pointer (some ⟨b, 0, none⟩))) (run_alloc zero_rel) ?_
  intro b6 w4 hH5
  refine RL.nil ?_
  refine CW.seq ?_
  refine CW.region ?_
  refine RL.val rfl (run_ldRel Tryd.underlying25 rfl rfl rfl (hH5.blk (i := 1) rfl)) ?_
  refine RL.callP rfl hH5 (c_relate_points _  _) (run_call1 Tryd.call93 rfl) ?_
  intro w7 hH8
  refine RL.val rfl (run_bld (vs := [(0, I _)]) rfl (built_rel _)) ?_
  refine RL.new rfl hH8 (f := fun b => (.pointer (some ⟨b, 0, none⟩))) (run_alloc zero_rel) ?_
  intro b11 w9 hH10
  refine RL.set hH10 (i := 0) rfl (run_stRel rfl rfl rfl (hH10.blk (i := 0) rfl)) ?_
  intro w12 hH13
  simp only [List.set_cons_zero, List.set_cons_succ] at hH13
  refine RL.nil ?_
  refine CW.seq ?_
  refine CW.seq ?_
  refine CW.region ?_
  refine RL.val rfl (run_fieldAddr Tryd.underlying25 rfl (off := 0) rfl Tryd.sizeOf3 (by decide) rfl) ?_
  refine RL.val rfl (run_ld Tryd.underlying3 rfl rfl (hH13.cell (i := 0) rfl (relC_N _))) ?_
  refine RL.val rfl (run_move (v := I 0) rfl) ?_
  refine RL.nil ?_
  refine CW.block ?_
  have hz : (⟨pts r, fun _ => 0#64⟩ : Rl).n = pts r := rfl
  refine CW.loop (G := (Int) × (Rl)) (fun (⟨k, r1⟩ : (Int) × (Rl)) s' w' => (Fr [4, 10, 11, 12, 13, 14, 15, 16, 17, 18, 19] _ s') ∧ (Hp w w' (.blk b11 (.cells (relC r1) 25 (0, 0)) :: _)) ∧ (s' 10 = I k) ∧ (0 ≤ k) ∧ (k ≤ pts r) ∧ (r1 = fillR (pts r) (fun i => rowR r i) k)) (fun (⟨k, r1⟩ : (Int) × (Rl)) => (pts r - k).toNat) ((0, ⟨pts r, fun _ => 0#64⟩)) ⟨Fr.refl _ _, hH13, rfl, (by omega), (by omega), fill_zero _ _⟩ ?_
  rintro ⟨k, r1⟩ sg14 w14 ⟨fr14, hH14, e10_14, h0, hk, hr⟩
  have e1_14 : sg14 1 = .pointer (some ⟨_, _, none⟩) := (fr14 1 rfl).trans rfl
  have e2_14 : sg14 2 = .pointer (some ⟨_, _, none⟩) := (fr14 2 rfl).trans rfl
  have e3_14 : sg14 3 = .pointer (some ⟨_, _, none⟩) := (fr14 3 rfl).trans rfl
  have e9_14 : sg14 9 = I _ := (fr14 9 rfl).trans rfl
  have hn : r1.n = pts r := by rw [hr]; rfl
  refine CW.seq ?_
  refine CW.region ?_
  refine RL.val rfl (run_lss e10_14 e9_14) ?_
  refine RL.nil ?_
  refine CW.seq ?_
  refine CW.condP rfl (fun h16 => ?_) (fun h16 => ?_)
  · refine CW.skip ?_
    refine CW.seq ?_
    refine CW.block ?_
    refine CW.seq ?_
    refine CW.region ?_
    refine RL.val rfl (run_move e10_14) ?_
    refine RL.val rfl (run_assign (v := I _) rfl) ?_
    refine RL.nil ?_
    refine CW.region ?_
    refine RL.val rfl (run_move (v := I _) rfl) ?_
    refine RL.val rfl (run_ldRel Tryd.underlying25 rfl rfl e1_14 (hH14.blk (i := 2) rfl)) ?_
    refine RL.val rfl (run_move (v := I _) rfl) ?_
    refine RL.callP rfl hH14 (c_relate_row _ _ (by first | assumption | omega | (dsimp only at *; omega) | exact lst_at_bd (by assumption) (by assumption) | exact low_bd (lst_at (by assumption) (by assumption))) _) (run_call2 Tryd.call94 rfl rfl) ?_
    intro w17 hH18
    refine RL.val rfl (run_fieldAddr Tryd.underlying25 rfl (off := 1) rfl Tryd.sizeOf23 (by decide) e3_14) ?_
    refine RL.val rfl (run_indexAddrA Tryd.underlying23 Tryd.sizeOf22 rfl rfl (by first | omega | (dsimp only at *; omega))) ?_
    refine RL.set hH18 (i := 0) rfl (run_st rfl rfl (v := U _) rfl rfl rfl (hH18.blk (i := 0) rfl) (by rw [relC_size]; omega)) ?_
    intro w19 hH20
    simp only [List.set_cons_zero, List.set_cons_succ] at hH20
    rw [relC_put] at hH20
    refine RL.nil ?_
    refine CW.region ?_
    refine RL.val rfl (run_add e10_14 rfl (by omega)) ?_
    refine RL.val rfl (run_move (v := I _) rfl) ?_
    refine RL.nil ?_
    refine ⟨(k + 1, _), ?_, ((((((((((fr14.u rfl).u rfl).u rfl).u rfl).u rfl).u rfl).u rfl).u rfl).u rfl).u rfl).u rfl, hH20, (congrArg I (by first | rfl | omega)), ?_, ?_, ?_⟩
    · ((try dsimp only); omega)
    · omega
    · omega
    · rw [hr]; exact fill_put h0 (by rw [Int.toNat_of_nonneg h0])
  · refine CW.exit (id := 0) rfl ?_
    refine CW.seq ?_
    refine CW.region ?_
    refine RL.val rfl (run_ldRel Tryd.underlying25 rfl rfl e3_14 (hH14.blk (i := 0) rfl)) ?_
    refine RL.set hH14 (i := 1) rfl (run_stRel rfl e2_14 rfl (hH14.blk (i := 1) rfl)) ?_
    intro w21 hH22
    simp only [List.set_cons_zero, List.set_cons_succ] at hH22
    refine RL.nil ?_
    refine CW.ret ?_
    refine outC Tryd.results89 e2_14 hH22 (i := 1) rfl Tryd.underlying25 rfl rfl ⟨?_, hH22.below⟩
    (rw [hr, show k = pts r by omega]; rfl)

theorem c_relate_Up (r : Rl) (s : BitVec 64) (w : World) (hT : Tab w) : Calls Tryd.prog 32 #[.agg (relC r), U s] w (Pure (U (upR r s)) w) := by
  have hp := pts_bd r
  refine enter Tryd.func32 rfl Tryd.ntmps32 rfl ?_
  have hH := Hp.start w
  refine CW.seq ?_
  refine CW.region ?_
  refine RL.new rfl hH (f := fun b => (.pointer (some ⟨b, 0, none⟩))) (run_box (v := .agg _) rfl) ?_
  intro b3 w1 hH2
  refine RL.val rfl (run_assign (v := U 0#64) rfl) ?_
  refine RL.nil ?_
  refine CW.seq ?_
  refine CW.region ?_
  refine RL.val rfl (run_assign (v := U 0#64) rfl) ?_
  refine RL.nil ?_
  refine CW.seq ?_
  refine CW.seq ?_
  refine CW.region ?_
  refine RL.val rfl (run_move (v := U _) rfl) ?_
  refine RL.val rfl (run_ldRel Tryd.underlying25 rfl rfl rfl (hH2.blk (i := 0) rfl)) ?_
  refine RL.callP rfl hH2 (c_relate_points _  _) (run_call1 Tryd.call93 rfl) ?_
  intro w4 hH5
  refine RL.callP rfl hH5 (c_mask_Below _  _) (run_call1 Tryd.call92 rfl) ?_
  intro w6 hH7
  refine RL.val rfl (run_andU rfl rfl) ?_
  refine RL.callR rfl hH7 (c_mask_List _  _ (hT.hp hH7)) (run_call1 Tryd.call84 rfl) ?_
  intro v10 w8 hH9
  refine RL.val rfl (run_lenSl (hH9.sl (i := 0) rfl) rfl Tryd.underlying36 rfl) ?_
  refine RL.val rfl (run_move (v := I 0) rfl) ?_
  refine RL.nil ?_
  refine CW.block ?_
  have hl := lst_len (s &&& below (pts r))
  refine CW.loop (G := (Int)) (fun (k : Int) s' w' => (Fr [5, 7, 15, 16, 17, 18, 19, 20, 21, 22, 23, 24] _ s') ∧ (Hp w w' _) ∧ (s' 5 = U (orAll (rowR r) ((lst (s &&& below (pts r))).take k.toNat))) ∧ (s' 15 = I k) ∧ (0 ≤ k) ∧ (k ≤ (lst (s &&& below (pts r))).length)) (fun (k : Int) => ((lst (s &&& below (pts r))).length - k).toNat) (0) ⟨Fr.refl _ _, hH9, (congrArg U (by simp [orAll])), rfl, (by omega), (by omega)⟩ ?_
  rintro k sg11 w11 ⟨fr11, hH11, e5_11, e15_11, h0, hk⟩
  have e2_11 : sg11 2 = .pointer (some ⟨_, _, none⟩) := (fr11 2 rfl).trans rfl
  have e4_11 : sg11 4 = U _ := (fr11 4 rfl).trans rfl
  have e13_11 := (fr11 13 rfl).trans (by conv => lhs; whnf)
  have e14_11 : sg11 14 = I _ := (fr11 14 rfl).trans rfl
  refine CW.seq ?_
  refine CW.region ?_
  refine RL.val rfl (run_lss e15_11 e14_11) ?_
  refine RL.nil ?_
  refine CW.seq ?_
  refine CW.condP rfl (fun h13 => ?_) (fun h13 => ?_)
  · refine CW.skip ?_
    refine CW.seq ?_
    refine CW.block ?_
    refine CW.seq ?_
    refine CW.region ?_
    refine RL.val rfl (run_indexAddrS (hH11.sl (i := 0) rfl) Tryd.underlying36 Tryd.sizeOf3 e13_11 e15_11 (by omega)) ?_
    refine RL.val rfl (run_ld Tryd.underlying3 rfl rfl ((hH11.sl (i := 0) rfl).cell _ _ (map_at (by omega)))) ?_
    refine RL.val rfl (run_assign (v := I _) rfl) ?_
    refine RL.nil ?_
    refine CW.region ?_
    refine RL.val rfl (run_move e5_11) ?_
    refine RL.val rfl (run_ldRel Tryd.underlying25 rfl rfl e2_11 (hH11.blk (i := 1) rfl)) ?_
    refine RL.val rfl (run_move (v := I _) rfl) ?_
    refine RL.callP rfl hH11 (c_relate_row _ _ (by first | assumption | omega | (dsimp only at *; omega) | exact lst_at_bd (by assumption) (by assumption) | exact low_bd (lst_at (by assumption) (by assumption))) _) (run_call2 Tryd.call94 rfl rfl) ?_
    intro w14 hH15
    refine RL.val rfl (run_orU rfl rfl) ?_
    refine RL.val rfl (run_assign (v := U _) rfl) ?_
    refine RL.nil ?_
    refine CW.region ?_
    refine RL.val rfl (run_add e15_11 rfl (by omega)) ?_
    refine RL.val rfl (run_move (v := I _) rfl) ?_
    refine RL.nil ?_
    refine ⟨k + 1, ?_, (((((((((((fr11.u rfl).u rfl).u rfl).u rfl).u rfl).u rfl).u rfl).u rfl).u rfl).u rfl).u rfl).u rfl, hH15, (congrArg U (orAll_next h0 ‹_›)), (congrArg I (by first | rfl | omega)), ?_, ?_⟩
    · ((try dsimp only); omega)
    · omega
    · omega
  · refine CW.exit (id := 0) rfl ?_
    refine CW.seq ?_
    refine CW.region ?_
    refine RL.val rfl (run_move e5_11) ?_
    refine RL.val rfl (run_assign (v := U _) rfl) ?_
    refine RL.nil ?_
    refine CW.ret ?_
    refine outP1 Tryd.results32 (congrArg U ?_) hH11.below
    (rw [take_all ‹_›]; rfl)

theorem c_relate_Down (r : Rl) (s : BitVec 64) (w : World) : Calls Tryd.prog 33 #[.agg (relC r), U s] w (Pure (U (downR r s)) w) := by
  have hp := pts_bd r
  refine enter Tryd.func33 rfl Tryd.ntmps33 rfl ?_
  have hH := Hp.start w
  refine CW.seq ?_
  refine CW.region ?_
  refine RL.new rfl hH (f := fun b => (.pointer (some ⟨b, 0, none⟩))) (run_box (v := .agg _) rfl) ?_
  intro b3 w1 hH2
  refine RL.val rfl (run_assign (v := U 0#64) rfl) ?_
  refine RL.nil ?_
  refine CW.seq ?_
  refine CW.region ?_
  refine RL.val rfl (run_assign (v := U 0#64) rfl) ?_
  refine RL.nil ?_
  refine CW.seq ?_
  refine CW.seq ?_
  refine CW.region ?_
  refine RL.val rfl (run_ldRel Tryd.underlying25 rfl rfl rfl (hH2.blk (i := 0) rfl)) ?_
  refine RL.callP rfl hH2 (c_relate_points _  _) (run_call1 Tryd.call93 rfl) ?_
  intro w4 hH5
  refine RL.val rfl (run_move (v := I 0) rfl) ?_
  refine RL.nil ?_
  refine CW.block ?_
  refine CW.loop (G := (Int)) (fun (k : Int) s' w' => (Fr [5, 6, 9, 10, 11, 12, 13, 14, 15, 16, 17, 18, 19, 20, 21] _ s') ∧ (Hp w w' _) ∧ (s' 5 = U (downTo r s k)) ∧ (s' 9 = I k) ∧ (0 ≤ k) ∧ (k ≤ pts r)) (fun (k : Int) => (pts r - k).toNat) (0) ⟨Fr.refl _ _, hH5, (congrArg U (by simp [downTo, bitsTo])), rfl, (by omega), (by omega)⟩ ?_
  rintro k sg6 w6 ⟨fr6, hH6, e5_6, e9_6, h0, hk⟩
  have e1_6 : sg6 1 = U _ := (fr6 1 rfl).trans rfl
  have e2_6 : sg6 2 = .pointer (some ⟨_, _, none⟩) := (fr6 2 rfl).trans rfl
  have e4_6 : sg6 4 = U _ := (fr6 4 rfl).trans rfl
  have e8_6 : sg6 8 = I _ := (fr6 8 rfl).trans rfl
  refine CW.seq ?_
  refine CW.region ?_
  refine RL.val rfl (run_lss e9_6 e8_6) ?_
  refine RL.nil ?_
  refine CW.seq ?_
  refine CW.condP rfl (fun h8 => ?_) (fun h8 => ?_)
  · refine CW.skip ?_
    refine CW.seq ?_
    refine CW.block ?_
    refine CW.seq ?_
    refine CW.region ?_
    refine RL.val rfl (run_move e9_6) ?_
    refine RL.val rfl (run_assign (v := I _) rfl) ?_
    refine RL.nil ?_
    refine CW.seq ?_
    refine CW.region ?_
    refine RL.val rfl (run_ldRel Tryd.underlying25 rfl rfl e2_6 (hH6.blk (i := 0) rfl)) ?_
    refine RL.val rfl (run_move (v := I _) rfl) ?_
    refine RL.callP rfl hH6 (c_relate_row _ _ (by first | assumption | omega | (dsimp only at *; omega) | exact lst_at_bd (by assumption) (by assumption) | exact low_bd (lst_at (by assumption) (by assumption))) _) (run_call2 Tryd.call94 rfl rfl) ?_
    intro w9 hH10
    refine RL.val rfl (run_move e1_6) ?_
    refine RL.val rfl (run_andU rfl rfl) ?_
    refine RL.val rfl (run_neqU rfl (b := 0#64) rfl) ?_
    refine RL.nil ?_
    refine CW.condP rfl (fun h12 => ?_) (fun h12 => ?_)
    · refine CW.region ?_
      refine RL.val rfl (run_move e5_6) ?_
      refine RL.val rfl (run_move (v := I _) rfl) ?_
      refine RL.callP rfl hH10 (c_mask_With _ _  _) (run_call2 Tryd.call90 rfl rfl) ?_
      intro w13 hH14
      refine RL.val rfl (run_assign (v := U _) rfl) ?_
      refine RL.nil ?_
      refine CW.region ?_
      refine RL.val rfl (run_add e9_6 rfl (by omega)) ?_
      refine RL.val rfl (run_move (v := I _) rfl) ?_
      refine RL.nil ?_
      refine ⟨k + 1, ?_, ((((((((((((((fr6.u rfl).u rfl).u rfl).u rfl).u rfl).u rfl).u rfl).u rfl).u rfl).u rfl).u rfl).u rfl).u rfl).u rfl).u rfl, hH14, (congrArg U (by first | exact down_yes h0 (by omega) ‹_› | exact down_not h0 ‹_›)), (congrArg I (by first | rfl | omega)), ?_, ?_⟩
      · ((try dsimp only); omega)
      · omega
      · omega
    · refine CW.skip ?_
      refine CW.region ?_
      refine RL.val rfl (run_add e9_6 rfl (by omega)) ?_
      refine RL.val rfl (run_move (v := I _) rfl) ?_
      refine RL.nil ?_
      refine ⟨k + 1, ?_, ((((((((((fr6.u rfl).u rfl).u rfl).u rfl).u rfl).u rfl).u rfl).u rfl).u rfl).u rfl).u rfl, hH10, (Eq.trans e5_6 (congrArg U (by first | exact down_yes h0 (by omega) ‹_› | exact down_not h0 ‹_›))), (congrArg I (by first | rfl | omega)), ?_, ?_⟩
      · ((try dsimp only); omega)
      · omega
      · omega
  · refine CW.exit (id := 0) rfl ?_
    refine CW.seq ?_
    refine CW.region ?_
    refine RL.val rfl (run_move e5_6) ?_
    refine RL.val rfl (run_assign (v := U _) rfl) ?_
    refine RL.nil ?_
    refine CW.ret ?_
    refine outP1 Tryd.results33 (congrArg U ?_) hH6.below
    (rw [show k = pts r by omega]; rfl)

theorem c_clearanceref03_Plain (r : Rl) (w : World) : Calls Tryd.prog 37 #[.agg (relC r)] w (Pure (.agg (relC (plainR r))) w) := by
  have hp := pts_bd r
  refine enter Tryd.func37 rfl Tryd.ntmps37 rfl ?_
  have hH := Hp.start w
  refine CW.seq ?_
  refine CW.region ?_
  refine RL.new rfl hH (f := fun b => (.pointer (some ⟨b, 0, none⟩))) (run_box (v := .agg _) rfl) ?_
  intro b3 w1 hH2
  refine RL.new rfl hH2 (f := fun b => (.pointer (some ⟨b, 0, none⟩))) (run_alloc zero_rel) ?_
  intro b6 w4 hH5
  refine RL.nil ?_
  refine CW.seq ?_
  refine CW.region ?_
  refine RL.val rfl (run_ldRel Tryd.underlying25 rfl rfl rfl (hH5.blk (i := 1) rfl)) ?_
  refine RL.callP rfl hH5 (c_clearanceref03_Points _  _) (run_call1 Tryd.call25 rfl) ?_
  intro w7 hH8
  refine RL.val rfl (run_bld (vs := [(0, I _)]) rfl (built_rel _)) ?_
  refine RL.new rfl hH8 (f := fun b => (.pointer (some ⟨b, 0, none⟩))) (run_alloc zero_rel) ?_
  intro b11 w9 hH10
  refine RL.set hH10 (i := 0) rfl (run_stRel rfl rfl rfl (hH10.blk (i := 0) rfl)) ?_
  intro w12 hH13
  simp only [List.set_cons_zero, List.set_cons_succ] at hH13
  refine RL.nil ?_
  refine CW.seq ?_
  refine CW.seq ?_
  refine CW.region ?_
  refine RL.val rfl (run_assign (v := I 0) rfl) ?_
  refine RL.nil ?_
  refine CW.block ?_
  have hz : (⟨pts r, fun _ => 0#64⟩ : Rl).n = pts r := rfl
  refine CW.loop (G := (Int) × (Rl)) (fun (⟨k, r1⟩ : (Int) × (Rl)) s' w' => (Fr [4, 5, 6, 10, 11, 12, 13, 14, 15, 16, 17, 18, 19, 20, 21, 22, 23, 24, 25, 26, 27, 28, 29, 30, 31, 32, 33, 34] _ s') ∧ (Hp w w' (.blk b11 (.cells (relC r1) 25 (0, 0)) :: _)) ∧ (s' 4 = I k) ∧ (0 ≤ k) ∧ (k ≤ pts r) ∧ (r1 = fillR (pts r) (fun i => rowR r i) k)) (fun (⟨k, r1⟩ : (Int) × (Rl)) => (pts r - k).toNat) ((0, ⟨pts r, fun _ => 0#64⟩)) ⟨Fr.refl _ _, hH13, rfl, (by omega), (by omega), fill_zero _ _⟩ ?_
  rintro ⟨k, r1⟩ sg14 w14 ⟨fr14, hH14, e4_14, h0, hk, hr⟩
  have e1_14 : sg14 1 = .pointer (some ⟨_, _, none⟩) := (fr14 1 rfl).trans rfl
  have e2_14 : sg14 2 = .pointer (some ⟨_, _, none⟩) := (fr14 2 rfl).trans rfl
  have e3_14 : sg14 3 = .pointer (some ⟨_, _, none⟩) := (fr14 3 rfl).trans rfl
  have hn : r1.n = pts r := by rw [hr]; rfl
  refine CW.seq ?_
  refine CW.seq ?_
  refine CW.region ?_
  refine RL.val rfl (run_move e4_14) ?_
  refine RL.val rfl (run_fieldAddr Tryd.underlying25 rfl (off := 0) rfl Tryd.sizeOf3 (by decide) e3_14) ?_
  refine RL.val rfl (run_ld Tryd.underlying3 rfl rfl (hH14.cell (i := 0) rfl (relC_N _))) ?_
  refine RL.val rfl (run_lss rfl rfl) ?_
  refine RL.nil ?_
  refine CW.condP rfl (fun h16 => ?_) (fun h16 => ?_)
  · refine CW.skip ?_
    refine CW.seq ?_
    refine CW.block ?_
    refine CW.seq ?_
    refine CW.region ?_
    refine RL.val rfl (run_assign (v := .slice none 0 0) rfl) ?_
    have hH17 := hH14.nilRow 3 1
    refine RL.nil ?_
    refine CW.seq ?_
    refine CW.seq ?_
    refine CW.region ?_
    refine RL.val rfl (run_assign (v := I 0) rfl) ?_
    refine RL.nil ?_
    refine CW.block ?_
    refine CW.loop (G := (Int) × (List Int) × (Value)) (fun (⟨j, l, v5⟩ : (Int) × (List Int) × (Value)) s' w' => (Fr [5, 6, 16, 17, 18, 19, 20, 21, 22, 23, 24, 25, 26, 27, 28, 29] _ s') ∧ (Hp w w' (.row v5 3 1 (l.length) (l.map I) :: _)) ∧ (s' 5 = v5) ∧ (s' 6 = I j) ∧ (0 ≤ j) ∧ (j ≤ pts r) ∧ (l = aboveTo r k j)) (fun (⟨j, l, v5⟩ : (Int) × (List Int) × (Value)) => (pts r - j).toNat) ((0, [], (.slice none 0 0 : Value))) ⟨Fr.refl _ _, hH17, rfl, rfl, (by omega), (by omega), rfl⟩ ?_
    rintro ⟨j, l, v5⟩ sg18 w18 ⟨fr18, hH18, e5_18, e6_18, j0, j1, hl⟩
    have e1_18 := (fr18 1 rfl).trans e1_14
    have e2_18 := (fr18 2 rfl).trans e2_14
    have e3_18 := (fr18 3 rfl).trans e3_14
    have e4_18 := (fr18 4 rfl).trans e4_14
    have e10_18 : sg18 10 = I _ := (fr18 10 rfl).trans rfl
    have e11_18 : sg18 11 = .pointer (some ⟨_, _, none⟩) := (fr18 11 rfl).trans rfl
    have e12_18 : sg18 12 = I _ := (fr18 12 rfl).trans rfl
    have e13_18 : sg18 13 = B _ := (fr18 13 rfl).trans rfl
    refine CW.seq ?_
    refine CW.seq ?_
    refine CW.region ?_
    refine RL.val rfl (run_move e6_18) ?_
    refine RL.val rfl (run_fieldAddr Tryd.underlying25 rfl (off := 0) rfl Tryd.sizeOf3 (by decide) e3_18) ?_
    refine RL.val rfl (run_ld Tryd.underlying3 rfl rfl (hH18.cell (i := 1) rfl (relC_N _))) ?_
    refine RL.val rfl (run_lss rfl rfl) ?_
    refine RL.nil ?_
    refine CW.condP rfl (fun h20 => ?_) (fun h20 => ?_)
    · refine CW.skip ?_
      refine CW.seq ?_
      refine CW.block ?_
      refine CW.seq ?_
      refine CW.region ?_
      refine RL.val rfl (run_ldRel Tryd.underlying25 rfl rfl e1_18 (hH18.blk (i := 3) rfl)) ?_
      refine RL.val rfl (run_move e4_18) ?_
      refine RL.val rfl (run_move e6_18) ?_
      refine RL.callP rfl hH18 (c_clearanceref03_Has _ _ _  _) (run_call3 Tryd.call26 rfl rfl rfl) ?_
      intro w21 hH22
      refine RL.nil ?_
      refine CW.cond rfl (fun h24 => ?_) (fun h24 => ?_)
      · refine CW.region ?_
        refine RL.val rfl (run_move e5_18) ?_
        refine RL.val rfl (run_move e6_18) ?_
        refine RL.new rfl hH22 (f := fun b => (.slice (some ⟨b, 0, none⟩) 1 1)) (run_mkL Tryd.underlying36 rfl rfl (sz := 1) (vs := [I _]) rfl rfl (by decide) (by decide) rfl rfl) ?_
        intro b27 w25 hH26
        (try simp only [List.flatMap_cons, List.flatMap_nil, clI, clB, clS, clP, clL, clA, List.append_nil, List.cons_append, List.nil_append] at hH26)
        refine RL.app rfl hH26 (i := 1) rfl (hH26.slBlk (i := 0) (n := 1) (sz := 1) rfl rfl (by decide)) rfl rfl Tryd.underlying36 rfl rfl (size := 1) (bytes := 8) rfl rfl rfl (by decide) (by simp [Value.oneCell']) (by have := @above_len r k j; rw [← hl] at this; omega) (by have := @above_len r k j; rw [← hl] at this; simp only [maxLen]; omega) ?_
        intro v28 w29 hH30
        simp only [List.set_cons_zero, List.set_cons_succ] at hH30
        refine RL.val rfl (run_assign (by conv => lhs; whnf)) ?_
        refine RL.nil ?_
        refine CW.region ?_
        refine RL.val rfl (run_move e6_18) ?_
        refine RL.val rfl (run_add rfl rfl (by omega)) ?_
        refine RL.val rfl (run_assign (v := I _) rfl) ?_
        refine RL.nil ?_
        refine ⟨(j + 1, l ++ [j], v28), ?_, (((((((((((((((fr18.u rfl).u rfl).u rfl).u rfl).u rfl).u rfl).u rfl).u rfl).u rfl).u rfl).u rfl).u rfl).u rfl).u rfl).u rfl).u rfl, (Hp.conv (hH30.sub (.cons _ (List.Sublist.refl _))) (by first | rfl | simp)), rfl, (congrArg I (by first | rfl | omega)), ?_, ?_, ?_⟩
        · ((try dsimp only); omega)
        · omega
        · omega
        · first | (rw [hl]; exact above_yes j0 ‹_›) | (rw [hl]; exact above_not j0 ‹_›)
      · refine CW.skip ?_
        refine CW.region ?_
        refine RL.val rfl (run_move e6_18) ?_
        refine RL.val rfl (run_add rfl rfl (by omega)) ?_
        refine RL.val rfl (run_assign (v := I _) rfl) ?_
        refine RL.nil ?_
        refine ⟨(j + 1, l, v5), ?_, ((((((((((fr18.u rfl).u rfl).u rfl).u rfl).u rfl).u rfl).u rfl).u rfl).u rfl).u rfl).u rfl, (Hp.conv hH22 (by first | rfl | simp)), e5_18, (congrArg I (by first | rfl | omega)), ?_, ?_, ?_⟩
        · ((try dsimp only); omega)
        · omega
        · omega
        · first | (rw [hl]; exact above_yes j0 ‹_›) | (rw [hl]; exact above_not j0 ‹_›)
    · refine CW.exit (id := 2) rfl ?_
      refine CW.region ?_
      refine RL.val rfl (run_move e4_18) ?_
      refine RL.val rfl (run_move e5_18) ?_
      refine RL.callP rfl hH18 (c_clearanceref01_Of _ _  _ (hH18.sl (i := 0) rfl)) (run_call1 Tryd.call96 rfl) ?_
      intro w31 hH32
      refine RL.val rfl (run_fieldAddr Tryd.underlying25 rfl (off := 1) rfl Tryd.sizeOf23 (by decide) e3_18) ?_
      refine RL.val rfl (run_indexAddrA Tryd.underlying23 Tryd.sizeOf22 rfl rfl (by first | omega | (dsimp only at *; omega))) ?_
      refine RL.set hH32 (i := 1) rfl (run_st rfl rfl (v := U _) rfl rfl rfl (hH32.blk (i := 1) rfl) (by rw [relC_size]; omega)) ?_
      intro w33 hH34
      simp only [List.set_cons_zero, List.set_cons_succ] at hH34
      rw [relC_put] at hH34
      refine RL.nil ?_
      refine CW.region ?_
      refine RL.val rfl (run_move e4_18) ?_
      refine RL.val rfl (run_add rfl rfl (by omega)) ?_
      refine RL.val rfl (run_assign (v := I _) rfl) ?_
      refine RL.nil ?_
      refine ⟨(k + 1, _), ?_, (((((((((((((((((((fr14.u rfl).u rfl).u rfl).u rfl).u rfl).u rfl).t fr18 rfl)).u rfl).u rfl).u rfl).u rfl).u rfl).u rfl).u rfl).u rfl).u rfl).u rfl).u rfl).u rfl, (hH34.sub (.cons _ (List.Sublist.refl _))), (congrArg I (by first | rfl | omega)), ?_, ?_, ?_⟩
      · ((try dsimp only); omega)
      · omega
      · omega
      · rw [hr]; exact fill_put h0 (by rw [Int.toNat_of_nonneg h0, hl, show j = pts r by omega]; exact above_row ⟨h0, by omega⟩)
  · refine CW.exit (id := 0) rfl ?_
    refine CW.seq ?_
    refine CW.region ?_
    refine RL.val rfl (run_ldRel Tryd.underlying25 rfl rfl e3_14 (hH14.blk (i := 0) rfl)) ?_
    refine RL.set hH14 (i := 1) rfl (run_stRel rfl e2_14 rfl (hH14.blk (i := 1) rfl)) ?_
    intro w35 hH36
    simp only [List.set_cons_zero, List.set_cons_succ] at hH36
    refine RL.nil ?_
    refine CW.ret ?_
    refine outC Tryd.results37 e2_14 hH36 (i := 1) rfl Tryd.underlying25 rfl rfl ⟨?_, hH36.below⟩
    (rw [hr, show k = pts r by omega]; rfl)

theorem c_relate_Closure (r : Rl) (w : World) : Calls Tryd.prog 24 #[.agg (relC r)] w (Pure (.agg (relC (cloR r))) w) := by
  have hp := pts_bd r
  have hn0 : (plainR r).n = pts r := rfl
  refine enter Tryd.func24 rfl Tryd.ntmps24 rfl ?_
  have hH := Hp.start w
  refine CW.seq ?_
  refine CW.region ?_
  refine RL.new rfl hH (f := fun b => (.pointer (some ⟨b, 0, none⟩))) (run_box (v := .agg _) rfl) ?_
  intro b3 w1 hH2
  refine RL.new rfl hH2 (f := fun b => (.pointer (some ⟨b, 0, none⟩))) (run_alloc zero_rel) ?_
  intro b6 w4 hH5
  refine RL.nil ?_
  refine CW.seq ?_
  refine CW.region ?_
  refine RL.val rfl (run_ldRel Tryd.underlying25 rfl rfl rfl (hH5.blk (i := 1) rfl)) ?_
  refine RL.callP rfl hH5 (c_relate_plain _  _) (run_call1 Tryd.call89 rfl) ?_
  intro w7 hH8
  refine RL.new rfl hH8 (f := fun b => (.pointer (some ⟨b, 0, none⟩))) (run_alloc zero_rel) ?_
  intro b11 w9 hH10
  refine RL.set hH10 (i := 0) rfl (run_stRel rfl rfl rfl (hH10.blk (i := 0) rfl)) ?_
  intro w12 hH13
  simp only [List.set_cons_zero, List.set_cons_succ] at hH13
  refine RL.nil ?_
  refine CW.seq ?_
  refine CW.seq ?_
  refine CW.region ?_
  refine RL.val rfl (run_fieldAddr Tryd.underlying25 rfl (off := 0) rfl Tryd.sizeOf3 (by decide) rfl) ?_
  refine RL.val rfl (run_ld Tryd.underlying3 rfl rfl (hH13.cell (i := 0) rfl (relC_N _))) ?_
  refine RL.val rfl (run_move (v := I 0) rfl) ?_
  refine RL.nil ?_
  refine CW.block ?_
  refine CW.loop (G := (Int) × (Rl)) (fun (⟨k, r1⟩ : (Int) × (Rl)) s' w' => (Fr [4, 11, 12, 13, 14, 15, 16, 17, 18, 19, 20, 21, 22, 23] _ s') ∧ (Hp w w' (.blk b11 (.cells (relC r1) 25 (0, 0)) :: _)) ∧ (s' 11 = I k) ∧ (0 ≤ k) ∧ (k ≤ pts r) ∧ (r1 = ⟨pts r, selfTo (plainR r).up k⟩)) (fun (⟨k, r1⟩ : (Int) × (Rl)) => (pts r - k).toNat) ((0, plainR r)) ⟨Fr.refl _ _, hH13, rfl, (by omega), (by omega), self_zero _ _⟩ ?_
  rintro ⟨k, r1⟩ sg14 w14 ⟨fr14, hH14, e11_14, h0, hk, hr⟩
  have e2_14 : sg14 2 = .pointer (some ⟨_, _, none⟩) := (fr14 2 rfl).trans rfl
  have e3_14 : sg14 3 = .pointer (some ⟨_, _, none⟩) := (fr14 3 rfl).trans rfl
  have e10_14 : sg14 10 = I _ := (fr14 10 rfl).trans rfl
  have hn : r1.n = pts r := by rw [hr]
  refine CW.seq ?_
  refine CW.region ?_
  refine RL.val rfl (run_lss e11_14 e10_14) ?_
  refine RL.nil ?_
  refine CW.seq ?_
  refine CW.condP rfl (fun h16 => ?_) (fun h16 => ?_)
  · refine CW.skip ?_
    refine CW.seq ?_
    refine CW.block ?_
    refine CW.seq ?_
    refine CW.region ?_
    refine RL.val rfl (run_move e11_14) ?_
    refine RL.val rfl (run_assign (v := I _) rfl) ?_
    refine RL.nil ?_
    refine CW.region ?_
    refine RL.val rfl (run_move (v := I _) rfl) ?_
    refine RL.val rfl (run_move (v := I _) rfl) ?_
    refine RL.val rfl (run_fieldAddr Tryd.underlying25 rfl (off := 1) rfl Tryd.sizeOf23 (by decide) e3_14) ?_
    refine RL.val rfl (run_indexAddrA Tryd.underlying23 Tryd.sizeOf22 rfl rfl (by first | omega | (dsimp only at *; omega))) ?_
    refine RL.val rfl (run_ld Tryd.underlying22 rfl rfl (hH14.cell (i := 0) rfl (relC_up _ (by omega)))) ?_
    refine RL.val rfl (run_move (v := I _) rfl) ?_
    refine RL.callP rfl hH14 (c_mask_With _ _  _) (run_call2 Tryd.call90 rfl rfl) ?_
    intro w17 hH18
    refine RL.val rfl (run_fieldAddr Tryd.underlying25 rfl (off := 1) rfl Tryd.sizeOf23 (by decide) e3_14) ?_
    refine RL.val rfl (run_indexAddrA Tryd.underlying23 Tryd.sizeOf22 rfl rfl (by first | omega | (dsimp only at *; omega))) ?_
    refine RL.set hH18 (i := 0) rfl (run_st rfl rfl (v := U _) rfl rfl rfl (hH18.blk (i := 0) rfl) (by rw [relC_size]; omega)) ?_
    intro w19 hH20
    simp only [List.set_cons_zero, List.set_cons_succ] at hH20
    rw [relC_put] at hH20
    refine RL.nil ?_
    refine CW.region ?_
    refine RL.val rfl (run_add e11_14 rfl (by omega)) ?_
    refine RL.val rfl (run_move (v := I _) rfl) ?_
    refine RL.nil ?_
    refine ⟨(k + 1, _), ?_, (((((((((((((fr14.u rfl).u rfl).u rfl).u rfl).u rfl).u rfl).u rfl).u rfl).u rfl).u rfl).u rfl).u rfl).u rfl).u rfl, hH20, (congrArg I (by first | rfl | omega)), ?_, ?_, ?_⟩
    · ((try dsimp only); omega)
    · omega
    · omega
    · rw [hr]; exact self_put h0
  · refine CW.exit (id := 0) rfl ?_
    refine CW.seq ?_
    refine CW.seq ?_
    refine CW.region ?_
    refine RL.val rfl (run_fieldAddr Tryd.underlying25 rfl (off := 0) rfl Tryd.sizeOf3 (by decide) e3_14) ?_
    refine RL.val rfl (run_ld Tryd.underlying3 rfl rfl (hH14.cell (i := 0) rfl (relC_N _))) ?_
    refine RL.val rfl (run_move (v := I 0) rfl) ?_
    refine RL.nil ?_
    refine CW.block ?_
    refine CW.loop (G := (Int) × (Rl)) (fun (⟨m, r2⟩ : (Int) × (Rl)) s' w' => (Fr [5, 6, 26, 27, 28, 29, 30, 31, 32, 33, 34, 35, 36, 37, 38, 39, 40, 41, 42, 43, 44, 45, 46, 47, 48, 49, 50, 51, 52] _ s') ∧ (Hp w w' (.blk b11 (.cells (relC r2) 25 (0, 0)) :: _)) ∧ (s' 26 = I m) ∧ (0 ≤ m) ∧ (m ≤ pts r) ∧ (r2 = ⟨pts r, wall (pts r) (selfTo (plainR r).up (pts r)) m.toNat⟩)) (fun (⟨m, r2⟩ : (Int) × (Rl)) => (pts r - m).toNat) ((0, r1)) ⟨Fr.refl _ _, hH14, rfl, (by omega), (by omega), (by rw [hr, show k = pts r by omega]; rfl)⟩ ?_
    rintro ⟨m, r2⟩ sg21 w21 ⟨fr21, hH21, e26_21, m0, m1, hr2⟩
    have e2_21 := (fr21 2 rfl).trans e2_14
    have e3_21 := (fr21 3 rfl).trans e3_14
    have e25_21 : sg21 25 = I _ := (fr21 25 rfl).trans rfl
    have hn2 : r2.n = pts r := by rw [hr2]
    refine CW.seq ?_
    refine CW.region ?_
    refine RL.val rfl (run_lss e26_21 e25_21) ?_
    refine RL.nil ?_
    refine CW.seq ?_
    refine CW.condP rfl (fun h23 => ?_) (fun h23 => ?_)
    · refine CW.skip ?_
      refine CW.seq ?_
      refine CW.block ?_
      refine CW.seq ?_
      refine CW.region ?_
      refine RL.val rfl (run_move e26_21) ?_
      refine RL.val rfl (run_assign (v := I _) rfl) ?_
      refine RL.nil ?_
      refine CW.seq ?_
      refine CW.region ?_
      refine RL.val rfl (run_fieldAddr Tryd.underlying25 rfl (off := 0) rfl Tryd.sizeOf3 (by decide) e3_21) ?_
      refine RL.val rfl (run_ld Tryd.underlying3 rfl rfl (hH21.cell (i := 0) rfl (relC_N _))) ?_
      refine RL.val rfl (run_move (v := I 0) rfl) ?_
      refine RL.nil ?_
      refine CW.block ?_
      refine CW.loop (G := (Int) × (Rl)) (fun (⟨i, r3⟩ : (Int) × (Rl)) s' w' => (Fr [6, 31, 32, 33, 34, 35, 36, 37, 38, 39, 40, 41, 42, 43, 44, 45, 46, 47, 48, 49, 50, 51] _ s') ∧ (Hp w w' (.blk b11 (.cells (relC r3) 25 (0, 0)) :: _)) ∧ (s' 31 = I i) ∧ (0 ≤ i) ∧ (i ≤ pts r) ∧ (r3 = ⟨pts r, passTo m.toNat i r2.up⟩)) (fun (⟨i, r3⟩ : (Int) × (Rl)) => (pts r - i).toNat) ((0, r2)) ⟨Fr.refl _ _, hH21, rfl, (by omega), (by omega), (by rw [hr2]; exact pass_zero _ _ _)⟩ ?_
      rintro ⟨i, r3⟩ sg24 w24 ⟨fr24, hH24, e31_24, i0, i1, hr3⟩
      have e2_24 := (fr24 2 rfl).trans e2_21
      have e3_24 := (fr24 3 rfl).trans e3_21
      have e5_24 : sg24 5 = I _ := (fr24 5 rfl).trans rfl
      have e25_24 := (fr24 25 rfl).trans e25_21
      have e26_24 := (fr24 26 rfl).trans e26_21
      have e27_24 : sg24 27 = B _ := (fr24 27 rfl).trans rfl
      have e28_24 : sg24 28 = I _ := (fr24 28 rfl).trans rfl
      have e29_24 : sg24 29 = .pointer (some ⟨_, _, none⟩) := (fr24 29 rfl).trans rfl
      have e30_24 : sg24 30 = I _ := (fr24 30 rfl).trans rfl
      have hn3 : r3.n = pts r := by rw [hr3]
      refine CW.seq ?_
      refine CW.region ?_
      refine RL.val rfl (run_lss e31_24 e30_24) ?_
      refine RL.nil ?_
      refine CW.seq ?_
      refine CW.condP rfl (fun h26 => ?_) (fun h26 => ?_)
      · refine CW.skip ?_
        refine CW.seq ?_
        refine CW.block ?_
        refine CW.seq ?_
        refine CW.region ?_
        refine RL.val rfl (run_move e31_24) ?_
        refine RL.val rfl (run_assign (v := I _) rfl) ?_
        refine RL.nil ?_
        refine CW.seq ?_
        refine CW.region ?_
        refine RL.val rfl (run_move (v := I _) rfl) ?_
        refine RL.val rfl (run_fieldAddr Tryd.underlying25 rfl (off := 1) rfl Tryd.sizeOf23 (by decide) e3_24) ?_
        refine RL.val rfl (run_indexAddrA Tryd.underlying23 Tryd.sizeOf22 rfl rfl (by first | omega | (dsimp only at *; omega))) ?_
        refine RL.val rfl (run_ld Tryd.underlying22 rfl rfl (hH24.cell (i := 0) rfl (relC_up _ (by omega)))) ?_
        refine RL.val rfl (run_move e5_24) ?_
        refine RL.callP rfl hH24 (c_mask_Has _ _  _) (run_call2 Tryd.call91 rfl rfl) ?_
        intro w27 hH28
        refine RL.nil ?_
        refine CW.cond rfl (fun h30 => ?_) (fun h30 => ?_)
        · refine CW.regionS (by kernel_rfl) hH28 (.cons _ (List.Sublist.refl _)) ?_
          intro w31 hH32
          refine AN.take 0 rfl rfl (by kernel_rfl) (by kernel_rfl) (by kernel_rfl) (hH32.sub (.cons _ (List.Sublist.refl _))) (fun w hS => run_move (v := I _) rfl) ?_
          refine AN.take 1 rfl rfl (by kernel_rfl) (by kernel_rfl) (by kernel_rfl) (hH32.sub (.cons _ (List.Sublist.refl _))) (fun w hS => run_fieldAddr Tryd.underlying25 rfl (off := 1) rfl Tryd.sizeOf23 (by decide) e3_24) ?_
          refine AN.take 2 rfl rfl (by kernel_rfl) (by kernel_rfl) (by kernel_rfl) (hH32.sub (.cons _ (List.Sublist.refl _))) (fun w hS => run_indexAddrA Tryd.underlying23 Tryd.sizeOf22 rfl rfl (by first | omega | (dsimp only at *; omega))) ?_
          refine AN.take 4 rfl rfl (by kernel_rfl) (by kernel_rfl) (by kernel_rfl) (hH32.sub (.cons _ (List.Sublist.refl _))) (fun w hS => run_move e5_24) ?_
          refine AN.take 5 rfl rfl (by kernel_rfl) (by kernel_rfl) (by kernel_rfl) (hH32.sub (.cons _ (List.Sublist.refl _))) (fun w hS => run_fieldAddr Tryd.underlying25 rfl (off := 1) rfl Tryd.sizeOf23 (by decide) e3_24) ?_
          refine AN.take 6 rfl rfl (by kernel_rfl) (by kernel_rfl) (by kernel_rfl) (hH32.sub (.cons _ (List.Sublist.refl _))) (fun w hS => run_indexAddrA Tryd.underlying23 Tryd.sizeOf22 rfl rfl (by first | omega | (dsimp only at *; omega))) ?_
          refine AN.take 9 rfl rfl (by kernel_rfl) (by kernel_rfl) (by kernel_rfl) (hH32.sub (.cons _ (List.Sublist.refl _))) (fun w hS => run_fieldAddr Tryd.underlying25 rfl (off := 1) rfl Tryd.sizeOf23 (by decide) e3_24) ?_
          refine AN.two 3 7 (by kernel_rfl) ?_ ?_
          · refine AO.read rfl gnone rfl hH32 (.cons _ (List.Sublist.refl _)) (run_ld Tryd.underlying22 rfl rfl (hH32.cell (i := 0) rfl (relC_up _ (by omega)))) ?_
            refine AN.one 7 (by kernel_rfl) ?_
            refine AO.read rfl gnone rfl hH32 (.cons _ (List.Sublist.refl _)) (run_ld Tryd.underlying22 rfl rfl (hH32.cell (i := 0) rfl (relC_up _ (by omega)))) ?_
            refine AN.take 8 rfl rfl (by kernel_rfl) (by kernel_rfl) (by kernel_rfl) (hH32.sub (.cons _ (List.Sublist.refl _))) (fun w hS => run_orU rfl rfl) ?_
            refine AN.take 10 rfl rfl (by kernel_rfl) (by kernel_rfl) (by kernel_rfl) (hH32.sub (.cons _ (List.Sublist.refl _))) (fun w hS => run_indexAddrA Tryd.underlying23 Tryd.sizeOf22 rfl rfl (by first | omega | (dsimp only at *; omega))) ?_
            refine AN.one 11 (by kernel_rfl) ?_
            refine AO.set rfl gnone hH32 (j := 0) rfl (.cons _ (List.Sublist.refl _)) (run_st rfl rfl (v := U _) rfl rfl rfl (hH32.blk (i := 0) rfl) (by rw [relC_size]; omega)) ?_
            intro w39 hH40
            simp only [List.set_cons_zero, List.set_cons_succ] at hH40
            rw [relC_put] at hH40
            refine AN.done (by kernel_rfl) ?_
            refine CW.region ?_
            refine RL.val rfl (run_add e31_24 rfl (by omega)) ?_
            refine RL.val rfl (run_move (v := I _) rfl) ?_
            refine RL.nil ?_
            refine ⟨(i + 1, _), ?_, (((((((((((((((((((((fr24.u rfl).u rfl).u rfl).u rfl).u rfl).u rfl).u rfl).u rfl).u rfl).u rfl).u rfl).u rfl).u rfl).u rfl).u rfl).u rfl).u rfl).u rfl).u rfl).u rfl).u rfl).u rfl, hH40, (congrArg I (by first | rfl | omega)), ?_, ?_, ?_⟩
            · ((try dsimp only); omega)
            · omega
            · omega
            · first | (rw [hr3] at *; exact pass_yes m0 i0 ‹_›) | (rw [hr3] at *; exact pass_not ⟨m0, by omega⟩ i0 ‹_›)
          · refine AO.read rfl gnone rfl hH32 (.cons _ (List.Sublist.refl _)) (run_ld Tryd.underlying22 rfl rfl (hH32.cell (i := 0) rfl (relC_up _ (by omega)))) ?_
            refine AN.one 3 (by kernel_rfl) ?_
            refine AO.read rfl gnone rfl hH32 (.cons _ (List.Sublist.refl _)) (run_ld Tryd.underlying22 rfl rfl (hH32.cell (i := 0) rfl (relC_up _ (by omega)))) ?_
            refine AN.take 8 rfl rfl (by kernel_rfl) (by kernel_rfl) (by kernel_rfl) (hH32.sub (.cons _ (List.Sublist.refl _))) (fun w hS => run_orU rfl rfl) ?_
            refine AN.take 10 rfl rfl (by kernel_rfl) (by kernel_rfl) (by kernel_rfl) (hH32.sub (.cons _ (List.Sublist.refl _))) (fun w hS => run_indexAddrA Tryd.underlying23 Tryd.sizeOf22 rfl rfl (by first | omega | (dsimp only at *; omega))) ?_
            refine AN.one 11 (by kernel_rfl) ?_
            refine AO.set rfl gnone hH32 (j := 0) rfl (.cons _ (List.Sublist.refl _)) (run_st rfl rfl (v := U _) rfl rfl rfl (hH32.blk (i := 0) rfl) (by rw [relC_size]; omega)) ?_
            intro w47 hH48
            simp only [List.set_cons_zero, List.set_cons_succ] at hH48
            rw [relC_put] at hH48
            refine AN.done (by kernel_rfl) ?_
            refine CW.region ?_
            refine RL.val rfl (run_add e31_24 rfl (by omega)) ?_
            refine RL.val rfl (run_move (v := I _) rfl) ?_
            refine RL.nil ?_
            refine ⟨(i + 1, _), ?_, (((((((((((((((((((((fr24.u rfl).u rfl).u rfl).u rfl).u rfl).u rfl).u rfl).u rfl).u rfl).u rfl).u rfl).u rfl).u rfl).u rfl).u rfl).u rfl).u rfl).u rfl).u rfl).u rfl).u rfl).u rfl, hH48, (congrArg I (by first | rfl | omega)), ?_, ?_, ?_⟩
            · ((try dsimp only); omega)
            · omega
            · omega
            · first | (rw [hr3] at *; exact pass_yes m0 i0 ‹_›) | (rw [hr3] at *; exact pass_not ⟨m0, by omega⟩ i0 ‹_›)
        · refine CW.skip ?_
          refine CW.region ?_
          refine RL.val rfl (run_add e31_24 rfl (by omega)) ?_
          refine RL.val rfl (run_move (v := I _) rfl) ?_
          refine RL.nil ?_
          refine ⟨(i + 1, _), ?_, ((((((((((fr24.u rfl).u rfl).u rfl).u rfl).u rfl).u rfl).u rfl).u rfl).u rfl).u rfl).u rfl, hH28, (congrArg I (by first | rfl | omega)), ?_, ?_, ?_⟩
          · ((try dsimp only); omega)
          · omega
          · omega
          · first | (rw [hr3] at *; exact pass_yes m0 i0 ‹_›) | (rw [hr3] at *; exact pass_not ⟨m0, by omega⟩ i0 ‹_›)
      · refine CW.exit (id := 4) rfl ?_
        refine CW.region ?_
        refine RL.val rfl (run_add e26_24 rfl (by omega)) ?_
        refine RL.val rfl (run_move (v := I _) rfl) ?_
        refine RL.nil ?_
        refine ⟨(m + 1, _), ?_, ((((((((((fr21.u rfl).u rfl).u rfl).u rfl).u rfl).u rfl).t fr24 rfl)).u rfl).u rfl).u rfl, hH24, (congrArg I (by first | rfl | omega)), ?_, ?_, ?_⟩
        · ((try dsimp only); omega)
        · omega
        · omega
        · rw [hr3, hr2, show i = pts r by omega]; exact wall_next m0
    · refine CW.exit (id := 2) rfl ?_
      refine CW.seq ?_
      refine CW.region ?_
      refine RL.val rfl (run_ldRel Tryd.underlying25 rfl rfl e3_21 (hH21.blk (i := 0) rfl)) ?_
      refine RL.set hH21 (i := 1) rfl (run_stRel rfl e2_21 rfl (hH21.blk (i := 1) rfl)) ?_
      intro w49 hH50
      simp only [List.set_cons_zero, List.set_cons_succ] at hH50
      refine RL.nil ?_
      refine CW.ret ?_
      refine outC Tryd.results24 e2_21 hH50 (i := 1) rfl Tryd.underlying25 rfl rfl ⟨?_, hH50.below⟩
      (rw [hr2, show m = pts r by omega]; rfl)

theorem c_clearanceref03_Reach (r : Rl) (i : Int) (w : World) : Calls Tryd.prog 28 #[.agg (relC r), I i] w (PureRow 3 1 (reachL r i).length ((reachL r i).map I) w) := by
  have hp := pts_bd r
  refine enter Tryd.func28 rfl Tryd.ntmps28 rfl ?_
  have hH := Hp.start w
  refine CW.seq ?_
  refine CW.region ?_
  refine RL.new rfl hH (f := fun b => (.pointer (some ⟨b, 0, none⟩))) (run_box (v := .agg _) rfl) ?_
  intro b3 w1 hH2
  refine RL.val rfl (run_assign (v := .slice none 0 0) rfl) ?_
  have hH4 := hH2.nilRow 3 1
  refine RL.nil ?_
  refine CW.seq ?_
  refine CW.seq ?_
  refine CW.region ?_
  refine RL.val rfl (run_move (v := I _) rfl) ?_
  refine RL.val rfl (run_lss rfl rfl) ?_
  refine RL.val rfl (run_move (v := B _) rfl) ?_
  refine RL.splitP (dj := 10) rfl (fun h6 => ?_) (fun h6 => ?_)
  · refine RL.gF rfl rfl (bT h6) rfl ?_
    refine RL.gF rfl rfl (bT h6) rfl ?_
    refine RL.gF rfl rfl (bT h6) rfl ?_
    refine RL.gF rfl rfl (bT h6) rfl ?_
    refine RL.val rfl (run_pickT (bT h6) (v := B true) rfl) ?_
    refine RL.nil ?_
    refine CW.condT rfl ?_
    refine CW.seq ?_
    refine CW.region ?_
    refine RL.val rfl (run_assign (v := .slice none 0 0) rfl) ?_
    have hH7 := hH4.nilRow 3 1
    refine RL.nil ?_
    refine CW.ret ?_
    exact outR Tryd.results28 rfl hH7 (i := 0) rfl (by first | (rw [reach_nil (by omega)]; rfl) | rw [← hl, bfs_end a0 ‹_›]) (by first | (rw [reach_nil (by omega)]; rfl) | rw [← hl, bfs_end a0 ‹_›])
  · refine RL.gT rfl (bF h6) ?_
    refine RL.val rfl (run_move (v := I _) rfl) ?_
    refine RL.gT rfl (bF h6) ?_
    refine RL.val rfl (run_ldRel Tryd.underlying25 rfl rfl rfl (hH4.blk (i := 1) rfl)) ?_
    refine RL.gT rfl (bF h6) ?_
    refine RL.callP rfl hH4 (c_clearanceref03_Points _  _) (run_call1 Tryd.call25 rfl) ?_
    intro w8 hH9
    refine RL.gT rfl (bF h6) ?_
    refine RL.val rfl (run_geq rfl rfl) ?_
    refine RL.val rfl (run_pickF (bF h6) (v := B _) rfl) ?_
    refine RL.nil ?_
    refine CW.condP rfl (fun h11 => ?_) (fun h11 => ?_)
    · refine CW.seq ?_
      refine CW.region ?_
      refine RL.val rfl (run_assign (v := .slice none 0 0) rfl) ?_
      have hH12 := hH9.nilRow 3 1
      refine RL.nil ?_
      refine CW.ret ?_
      exact outR Tryd.results28 rfl hH12 (i := 0) rfl (by first | (rw [reach_nil (by omega)]; rfl) | rw [← hl, bfs_end a0 ‹_›]) (by first | (rw [reach_nil (by omega)]; rfl) | rw [← hl, bfs_end a0 ‹_›])
    · refine CW.skip ?_
      refine CW.seq ?_
      refine CW.region ?_
      refine RL.val rfl (run_move (v := I _) rfl) ?_
      refine RL.new rfl hH9 (f := fun b => (.slice (some ⟨b, 0, none⟩) 1 1)) (run_mkL Tryd.underlying36 rfl rfl (sz := 1) (vs := [I _]) rfl rfl (by decide) (by decide) rfl rfl) ?_
      intro b15 w13 hH14
      (try simp only [List.flatMap_cons, List.flatMap_nil, clI, clB, clS, clP, clL, clA, List.append_nil, List.cons_append, List.nil_append] at hH14)
      have hH16 := hH14.blkRow 1 1 rfl (by decide)
      refine RL.val rfl (run_assign (by conv => lhs; whnf)) ?_
      refine RL.nil ?_
      refine CW.seq ?_
      refine CW.seq ?_
      refine CW.region ?_
      refine RL.val rfl (run_assign (v := I 0) rfl) ?_
      refine RL.nil ?_
      refine CW.block ?_
      refine CW.loop (G := (Int) × (List Int) × (Value)) (fun (⟨a, l, v5⟩ : (Int) × (List Int) × (Value)) s' w' => (Fr [5, 6, 7, 18, 19, 20, 21, 22, 23, 24, 25, 26, 27, 28, 29, 30, 31, 32, 33, 34, 35, 36, 37, 38, 39, 40, 41, 42, 43, 44, 45, 46] _ s') ∧ (Hp w w' (.row v5 3 1 (l.length) (l.map I) :: _)) ∧ (s' 5 = v5) ∧ (s' 6 = I a) ∧ (0 ≤ a) ∧ (a ≤ l.length) ∧ (Okl r l) ∧ (bfs r (65 - a.toNat) a.toNat l = reachL r i)) (fun (⟨a, l, v5⟩ : (Int) × (List Int) × (Value)) => ((65 : Int) - a).toNat) ((0, [i], (.slice (some ⟨b15, 0, none⟩) 1 1 : Value))) ⟨Fr.refl _ _, hH16, rfl, rfl, (by omega), (by simp), Okl.one (by omega), (by rw [reachL, if_pos (isP_iff.2 (by omega))]; rfl)⟩ ?_
      rintro ⟨a, l, v5⟩ sg17 w17 ⟨fr17, hH17, e5_17, e6_17, a0, a1, hok, hl⟩
      have e2_17 : sg17 2 = .pointer (some ⟨_, _, none⟩) := (fr17 2 rfl).trans rfl
      have e4_17 := (fr17 4 rfl).trans (by conv => lhs; whnf)
      refine CW.seq ?_
      refine CW.seq ?_
      refine CW.region ?_
      refine RL.val rfl (run_move e6_17) ?_
      refine RL.val rfl (run_move e5_17) ?_
      refine RL.val rfl (run_lenSl (hH17.sl (i := 0) rfl) rfl Tryd.underlying36 rfl) ?_
      refine RL.val rfl (run_lss rfl rfl) ?_
      refine RL.nil ?_
      refine CW.condP rfl (fun h19 => ?_) (fun h19 => ?_)
      · refine CW.skip ?_
        refine CW.seq ?_
        refine CW.block ?_
        refine CW.seq ?_
        refine CW.region ?_
        refine RL.val rfl (run_assign (v := I 0) rfl) ?_
        refine RL.nil ?_
        refine CW.block ?_
        refine CW.loop (G := (Int) × (List Int) × (Value)) (fun (⟨b, l2, v5⟩ : (Int) × (List Int) × (Value)) s' w' => (Fr [5, 7, 24, 25, 26, 27, 28, 29, 30, 31, 32, 33, 34, 35, 36, 37, 38, 39, 40, 41, 42, 43, 44, 45, 46] _ s') ∧ (Hp w w' (.row v5 3 1 (l2.length) (l2.map I) :: _)) ∧ (s' 5 = v5) ∧ (s' 7 = I b) ∧ (0 ≤ b) ∧ (b ≤ pts r) ∧ (l2 = scan r (l.getD a.toNat 0) l b.toNat) ∧ (Okl r l2) ∧ (l.length ≤ l2.length) ∧ (l2.getD a.toNat 0 = l.getD a.toNat 0)) (fun (⟨b, l2, v5⟩ : (Int) × (List Int) × (Value)) => (pts r - b).toNat) ((0, l, (v5 : Value))) ⟨Fr.refl _ _, hH17, e5_17, rfl, (by omega), (by omega), rfl, hok, Nat.le_refl _, rfl⟩ ?_
        rintro ⟨b, l2, v5⟩ sg20 w20 ⟨fr20, hH20, e5_20, e7_20, b0, b1, h2, hok2, hle, hget⟩
        have e2_20 := (fr20 2 rfl).trans e2_17
        have e4_20 := (fr20 4 rfl).trans e4_17
        have e6_20 := (fr20 6 rfl).trans e6_17
        have e18_20 : sg20 18 = I _ := (fr20 18 rfl).trans rfl
        have e19_20 := (fr20 19 rfl).trans (by conv => lhs; whnf)
        have e20_20 : sg20 20 = I _ := (fr20 20 rfl).trans rfl
        have e21_20 : sg20 21 = B _ := (fr20 21 rfl).trans rfl
        refine CW.seq ?_
        refine CW.seq ?_
        refine CW.region ?_
        refine RL.val rfl (run_move e7_20) ?_
        refine RL.val rfl (run_ldRel Tryd.underlying25 rfl rfl e2_20 (hH20.blk (i := 2) rfl)) ?_
        refine RL.callP rfl hH20 (c_clearanceref03_Points _  _) (run_call1 Tryd.call25 rfl) ?_
        intro w21 hH22
        refine RL.val rfl (run_lss rfl rfl) ?_
        refine RL.nil ?_
        refine CW.condP rfl (fun h24 => ?_) (fun h24 => ?_)
        · refine CW.skip ?_
          refine CW.seq ?_
          refine CW.block ?_
          refine CW.seq ?_
          refine CW.regionD (by kernel_rfl) hH22 ?_
          intro w25 hH26
          refine AN.take 0 rfl rfl (by kernel_rfl) (by kernel_rfl) (by kernel_rfl) (hH26.sub (List.Sublist.refl _)) (fun w hS => run_ldRel Tryd.underlying25 rfl rfl e2_20 (hS.blk (i := 2) rfl)) ?_
          refine AN.take 1 rfl rfl (by kernel_rfl) (by kernel_rfl) (by kernel_rfl) (hH26.sub (List.Sublist.refl _)) (fun w hS => run_move e5_20) ?_
          refine AN.take 2 rfl rfl (by kernel_rfl) (by kernel_rfl) (by kernel_rfl) (hH26.sub (List.Sublist.refl _)) (fun w hS => run_move e6_20) ?_
          refine AN.take 3 rfl rfl (by kernel_rfl) (by kernel_rfl) (by kernel_rfl) (hH26.sub (List.Sublist.refl _)) (fun w hS => run_indexAddrS (hS.sl (i := 0) rfl) Tryd.underlying36 Tryd.sizeOf3 rfl rfl (by omega)) ?_
          refine AN.take 4 rfl rfl (by kernel_rfl) (by kernel_rfl) (by kernel_rfl) (hH26.sub (List.Sublist.refl _)) (fun w hS => run_ld Tryd.underlying3 rfl rfl ((hS.sl (i := 0) rfl).cell _ _ (map_at (by omega)))) ?_
          refine AN.take 5 rfl rfl (by kernel_rfl) (by kernel_rfl) (by kernel_rfl) (hH26.sub (List.Sublist.refl _)) (fun w hS => run_move e7_20) ?_
          refine AN.one 6 (by kernel_rfl) ?_
          refine AO.callP rfl gnone rfl hH26 (List.Sublist.refl _) (c_clearanceref03_Has r (l2.getD a.toNat 0) b _) (run_call3 Tryd.call26 rfl rfl rfl) ?_
          intro w27 hH28
          refine AN.take 7 rfl rfl (by kernel_rfl) (by kernel_rfl) (by kernel_rfl) (hH28.sub (List.Sublist.refl _)) (fun w hS => run_move (v := B _) rfl) ?_
          refine AN.split (dj := 37) rfl (fun h30 => ?_) (fun h30 => ?_)
          · refine AN.takeG 8 rfl rfl (bR (c := true) h30) rfl (by kernel_rfl) (by kernel_rfl) (by kernel_rfl) (hH28.sub (List.Sublist.refl _)) (fun w hS => run_move e5_20) ?_
            refine AN.takeG 9 rfl rfl (bR (c := true) h30) rfl (by kernel_rfl) (by kernel_rfl) (by kernel_rfl) (hH28.sub (List.Sublist.refl _)) (fun w hS => run_move e7_20) ?_
            refine AN.one 10 (by kernel_rfl) ?_
            refine AO.callP rfl (gsome rfl (bR (c := true) h30)) rfl hH28 (List.Sublist.refl _) (c_clearanceref03_In _ _ _  _ (hH28.sl (i := 0) rfl)) (run_call2 Tryd.call27 rfl rfl) ?_
            intro w31 hH32
            refine AN.takeG 11 rfl rfl (bR (c := true) h30) rfl (by kernel_rfl) (by kernel_rfl) (by kernel_rfl) (hH32.sub (List.Sublist.refl _)) (fun w hS => run_not rfl) ?_
            refine AN.take 12 rfl rfl (by kernel_rfl) (by kernel_rfl) (by kernel_rfl) (hH32.sub (List.Sublist.refl _)) (fun w hS => run_pickT (bR (c := true) h30) (v := B _) rfl) ?_
            refine AN.done (by kernel_rfl) ?_
            refine CW.cond rfl (fun h35 => ?_) (fun h35 => ?_)
            · refine CW.region ?_
              refine RL.val rfl (run_move e5_20) ?_
              refine RL.val rfl (run_move e7_20) ?_
              refine RL.new rfl hH32 (f := fun b => (.slice (some ⟨b, 0, none⟩) 1 1)) (run_mkL Tryd.underlying36 rfl rfl (sz := 1) (vs := [I _]) rfl rfl (by decide) (by decide) rfl rfl) ?_
              intro b38 w36 hH37
              (try simp only [List.flatMap_cons, List.flatMap_nil, clI, clB, clS, clP, clL, clA, List.append_nil, List.cons_append, List.nil_append] at hH37)
              refine RL.app rfl hH37 (i := 1) rfl (hH37.slBlk (i := 0) (n := 1) (sz := 1) rfl rfl (by decide)) rfl rfl Tryd.underlying36 rfl rfl (size := 1) (bytes := 8) rfl rfl rfl (by decide) (by simp [Value.oneCell']) (by have := hok2.len; omega) (by have := hok2.len; simp only [maxLen]; omega) ?_
              intro v39 w40 hH41
              simp only [List.set_cons_zero, List.set_cons_succ] at hH41
              refine RL.val rfl (run_assign (by conv => lhs; whnf)) ?_
              refine RL.nil ?_
              refine CW.region ?_
              refine RL.val rfl (run_move e7_20) ?_
              refine RL.val rfl (run_add rfl rfl (by first | omega | (have := hok.len; omega))) ?_
              refine RL.val rfl (run_assign (v := I _) rfl) ?_
              refine RL.nil ?_
              refine ⟨(b + 1, l2 ++ [b], v39), ?_, ((((((((((((((((((((((((fr20.u rfl).u rfl).u rfl).u rfl).u rfl).u rfl).u rfl).u rfl).u rfl).u rfl).u rfl).u rfl).u rfl).u rfl).u rfl).u rfl).u rfl).u rfl).u rfl).u rfl).u rfl).u rfl).u rfl).u rfl).u rfl, (Hp.conv (hH41.sub (.cons _ (List.Sublist.refl _))) (by first | rfl | simp)), rfl, (congrArg I (by first | rfl | omega)), ?_, ?_, ?_, ?_, ?_, ?_⟩
              · ((try dsimp only); omega)
              · omega
              · omega
              · rw [hget] at *; first | (rw [h2] at *; exact scan_yes b0 ‹_› (nt ‹_›)) | (rw [h2] at *; exact scan_no1 b0 ‹_›) | (rw [h2] at *; exact scan_no2 b0 (nf ‹_›))
              · first | exact hok2 | exact hok2.add ⟨b0, ‹_›⟩ (nt ‹_›)
              · first | exact hle | (simp; omega)
              · first | exact hget | (rw [← hget, List.getD_eq_getElem?_getD, List.getD_eq_getElem?_getD, List.getElem?_append_left (by omega)])
            · refine CW.skip ?_
              refine CW.region ?_
              refine RL.val rfl (run_move e7_20) ?_
              refine RL.val rfl (run_add rfl rfl (by first | omega | (have := hok.len; omega))) ?_
              refine RL.val rfl (run_assign (v := I _) rfl) ?_
              refine RL.nil ?_
              refine ⟨(b + 1, l2, v5), ?_, (((((((((((((((((((fr20.u rfl).u rfl).u rfl).u rfl).u rfl).u rfl).u rfl).u rfl).u rfl).u rfl).u rfl).u rfl).u rfl).u rfl).u rfl).u rfl).u rfl).u rfl).u rfl).u rfl, (Hp.conv hH32 (by first | rfl | simp)), e5_20, (congrArg I (by first | rfl | omega)), ?_, ?_, ?_, ?_, ?_, ?_⟩
              · ((try dsimp only); omega)
              · omega
              · omega
              · rw [hget] at *; first | (rw [h2] at *; exact scan_yes b0 ‹_› (nt ‹_›)) | (rw [h2] at *; exact scan_no1 b0 ‹_›) | (rw [h2] at *; exact scan_no2 b0 (nf ‹_›))
              · first | exact hok2 | exact hok2.add ⟨b0, ‹_›⟩ (nt ‹_›)
              · first | exact hle | (simp; omega)
              · first | exact hget | (rw [← hget, List.getD_eq_getElem?_getD, List.getD_eq_getElem?_getD, List.getElem?_append_left (by omega)])
          · refine AN.skipG 8 rfl rfl (bR (c := false) h30) rfl rfl (by kernel_rfl) (by kernel_rfl) (by kernel_rfl) (hH28.sub (List.Sublist.refl _)) ?_
            refine AN.skipG 9 rfl rfl (bR (c := false) h30) rfl rfl (by kernel_rfl) (by kernel_rfl) (by kernel_rfl) (hH28.sub (List.Sublist.refl _)) ?_
            refine AN.skipG 10 rfl rfl (bR (c := false) h30) rfl rfl (by kernel_rfl) (by kernel_rfl) (by kernel_rfl) (hH28.sub (List.Sublist.refl _)) ?_
            refine AN.skipG 11 rfl rfl (bR (c := false) h30) rfl rfl (by kernel_rfl) (by kernel_rfl) (by kernel_rfl) (hH28.sub (List.Sublist.refl _)) ?_
            refine AN.take 12 rfl rfl (by kernel_rfl) (by kernel_rfl) (by kernel_rfl) (hH28.sub (List.Sublist.refl _)) (fun w hS => run_pickF (bR (c := false) h30) (v := B false) rfl) ?_
            refine AN.done (by kernel_rfl) ?_
            refine CW.condF rfl ?_
            refine CW.skip ?_
            refine CW.region ?_
            refine RL.val rfl (run_move e7_20) ?_
            refine RL.val rfl (run_add rfl rfl (by first | omega | (have := hok.len; omega))) ?_
            refine RL.val rfl (run_assign (v := I _) rfl) ?_
            refine RL.nil ?_
            refine ⟨(b + 1, l2, v5), ?_, (((((((((((((((((((fr20.u rfl).u rfl).u rfl).u rfl).u rfl).u rfl).u rfl).u rfl).u rfl).u rfl).u rfl).u rfl).u rfl).u rfl).u rfl).u rfl).u rfl).u rfl).u rfl).u rfl, (Hp.conv hH28 (by first | rfl | simp)), e5_20, (congrArg I (by first | rfl | omega)), ?_, ?_, ?_, ?_, ?_, ?_⟩
            · ((try dsimp only); omega)
            · omega
            · omega
            · rw [hget] at *; first | (rw [h2] at *; exact scan_yes b0 ‹_› (nt ‹_›)) | (rw [h2] at *; exact scan_no1 b0 ‹_›) | (rw [h2] at *; exact scan_no2 b0 (nf ‹_›))
            · first | exact hok2 | exact hok2.add ⟨b0, ‹_›⟩ (nt ‹_›)
            · first | exact hle | (simp; omega)
            · first | exact hget | (rw [← hget, List.getD_eq_getElem?_getD, List.getD_eq_getElem?_getD, List.getElem?_append_left (by omega)])
        · refine CW.exit (id := 2) rfl ?_
          refine CW.region ?_
          refine RL.val rfl (run_move e6_20) ?_
          refine RL.val rfl (run_add rfl rfl (by first | omega | (have := hok.len; omega))) ?_
          refine RL.val rfl (run_assign (v := I _) rfl) ?_
          refine RL.nil ?_
          refine ⟨(a + 1, l2, v5), ?_, (((((((((((((fr17.u rfl).u rfl).u rfl).u rfl).u rfl).t fr20 rfl)).u rfl).u rfl).u rfl).u rfl).u rfl).u rfl).u rfl, (Hp.conv hH22 (by first | rfl | simp)), e5_20, (congrArg I (by first | rfl | omega)), ?_, ?_, ?_, ?_⟩
          · have := hok.len; (try dsimp only); omega
          · omega
          · omega
          · exact hok2
          · (rw [h2, show b = pts r by omega, ← bfs_step a0 ‹_› hok.len]; exact hl)
      · refine CW.exit (id := 0) rfl ?_
        refine CW.seq ?_
        refine CW.region ?_
        refine RL.val rfl (run_move e5_17) ?_
        refine RL.val rfl (run_assign (by conv => lhs; whnf)) ?_
        refine RL.nil ?_
        refine CW.ret ?_
        exact outR Tryd.results28 rfl hH17 (i := 0) rfl (by first | (rw [reach_nil (by omega)]; rfl) | rw [← hl, bfs_end a0 ‹_›]) (by first | (rw [reach_nil (by omega)]; rfl) | rw [← hl, bfs_end a0 ‹_›])

theorem c_clearanceref03_Closure (r : Rl) (w : World) : Calls Tryd.prog 38 #[.agg (relC r)] w (Pure (.agg (relC (cloR r))) w) := by
  have hp := pts_bd r
  refine enter Tryd.func38 rfl Tryd.ntmps38 rfl ?_
  have hH := Hp.start w
  refine CW.seq ?_
  refine CW.region ?_
  refine RL.new rfl hH (f := fun b => (.pointer (some ⟨b, 0, none⟩))) (run_box (v := .agg _) rfl) ?_
  intro b3 w1 hH2
  refine RL.new rfl hH2 (f := fun b => (.pointer (some ⟨b, 0, none⟩))) (run_alloc zero_rel) ?_
  intro b6 w4 hH5
  refine RL.nil ?_
  refine CW.seq ?_
  refine CW.region ?_
  refine RL.val rfl (run_ldRel Tryd.underlying25 rfl rfl rfl (hH5.blk (i := 1) rfl)) ?_
  refine RL.callP rfl hH5 (c_clearanceref03_Points _  _) (run_call1 Tryd.call25 rfl) ?_
  intro w7 hH8
  refine RL.val rfl (run_bld (vs := [(0, I _)]) rfl (built_rel _)) ?_
  refine RL.new rfl hH8 (f := fun b => (.pointer (some ⟨b, 0, none⟩))) (run_alloc zero_rel) ?_
  intro b11 w9 hH10
  refine RL.set hH10 (i := 0) rfl (run_stRel rfl rfl rfl (hH10.blk (i := 0) rfl)) ?_
  intro w12 hH13
  simp only [List.set_cons_zero, List.set_cons_succ] at hH13
  refine RL.nil ?_
  refine CW.seq ?_
  refine CW.seq ?_
  refine CW.region ?_
  refine RL.val rfl (run_assign (v := I 0) rfl) ?_
  refine RL.nil ?_
  refine CW.block ?_
  have hz : (⟨pts r, fun _ => 0#64⟩ : Rl).n = pts r := rfl
  refine CW.loop (G := (Int) × (Rl)) (fun (⟨k, r1⟩ : (Int) × (Rl)) s' w' => (Fr [4, 8, 9, 10, 11, 12, 13, 14, 15, 16, 17, 18, 19, 20] _ s') ∧ (Hp w w' (.blk b11 (.cells (relC r1) 25 (0, 0)) :: _)) ∧ (s' 4 = I k) ∧ (0 ≤ k) ∧ (k ≤ pts r) ∧ (r1 = fillR (pts r) (fun i => ofl (reachL r i)) k)) (fun (⟨k, r1⟩ : (Int) × (Rl)) => (pts r - k).toNat) ((0, ⟨pts r, fun _ => 0#64⟩)) ⟨Fr.refl _ _, hH13, rfl, (by omega), (by omega), fill_zero _ _⟩ ?_
  rintro ⟨k, r1⟩ sg14 w14 ⟨fr14, hH14, e4_14, h0, hk, hr⟩
  have e1_14 : sg14 1 = .pointer (some ⟨_, _, none⟩) := (fr14 1 rfl).trans rfl
  have e2_14 : sg14 2 = .pointer (some ⟨_, _, none⟩) := (fr14 2 rfl).trans rfl
  have e3_14 : sg14 3 = .pointer (some ⟨_, _, none⟩) := (fr14 3 rfl).trans rfl
  have hn : r1.n = pts r := by rw [hr]; rfl
  refine CW.seq ?_
  refine CW.seq ?_
  refine CW.region ?_
  refine RL.val rfl (run_move e4_14) ?_
  refine RL.val rfl (run_fieldAddr Tryd.underlying25 rfl (off := 0) rfl Tryd.sizeOf3 (by decide) e3_14) ?_
  refine RL.val rfl (run_ld Tryd.underlying3 rfl rfl (hH14.cell (i := 0) rfl (relC_N _))) ?_
  refine RL.val rfl (run_lss rfl rfl) ?_
  refine RL.nil ?_
  refine CW.condP rfl (fun h16 => ?_) (fun h16 => ?_)
  · refine CW.skip ?_
    refine CW.seq ?_
    refine CW.block ?_
    refine CW.region ?_
    refine RL.val rfl (run_move e4_14) ?_
    refine RL.val rfl (run_ldRel Tryd.underlying25 rfl rfl e1_14 (hH14.blk (i := 2) rfl)) ?_
    refine RL.val rfl (run_move e4_14) ?_
    refine RL.callR rfl hH14 (c_clearanceref03_Reach _ _  _) (run_call2 Tryd.call28 rfl rfl) ?_
    intro v19 w17 hH18
    refine RL.callP rfl hH18 (c_clearanceref01_Of _ _  _ (hH18.sl (i := 0) rfl)) (run_call1 Tryd.call96 rfl) ?_
    intro w20 hH21
    refine RL.val rfl (run_fieldAddr Tryd.underlying25 rfl (off := 1) rfl Tryd.sizeOf23 (by decide) e3_14) ?_
    refine RL.val rfl (run_indexAddrA Tryd.underlying23 Tryd.sizeOf22 rfl rfl (by first | omega | (dsimp only at *; omega))) ?_
    refine RL.set hH21 (i := 1) rfl (run_st rfl rfl (v := U _) rfl rfl rfl (hH21.blk (i := 1) rfl) (by rw [relC_size]; omega)) ?_
    intro w22 hH23
    simp only [List.set_cons_zero, List.set_cons_succ] at hH23
    rw [relC_put] at hH23
    refine RL.nil ?_
    refine CW.region ?_
    refine RL.val rfl (run_move e4_14) ?_
    refine RL.val rfl (run_add rfl rfl (by omega)) ?_
    refine RL.val rfl (run_assign (v := I _) rfl) ?_
    refine RL.nil ?_
    refine ⟨(k + 1, _), ?_, (((((((((((((fr14.u rfl).u rfl).u rfl).u rfl).u rfl).u rfl).u rfl).u rfl).u rfl).u rfl).u rfl).u rfl).u rfl).u rfl, (hH23.sub (.cons _ (List.Sublist.refl _))), (congrArg I (by first | rfl | omega)), ?_, ?_, ?_⟩
    · ((try dsimp only); omega)
    · omega
    · omega
    · rw [hr]; exact fill_put h0 (by rw [Int.toNat_of_nonneg h0])
  · refine CW.exit (id := 0) rfl ?_
    refine CW.seq ?_
    refine CW.region ?_
    refine RL.val rfl (run_ldRel Tryd.underlying25 rfl rfl e3_14 (hH14.blk (i := 0) rfl)) ?_
    refine RL.set hH14 (i := 1) rfl (run_stRel rfl e2_14 rfl (hH14.blk (i := 1) rfl)) ?_
    intro w24 hH25
    simp only [List.set_cons_zero, List.set_cons_succ] at hH25
    refine RL.nil ?_
    refine CW.ret ?_
    refine outC Tryd.results38 e2_14 hH25 (i := 1) rfl Tryd.underlying25 rfl rfl ⟨?_, hH25.below⟩
    (rw [hr, show k = pts r by omega, clo_ref])

theorem c_relate_Same (a b : Rl) (w : World) : Calls Tryd.prog 36 #[.agg (relC a), .agg (relC b)] w (Pure (B (decide ((plainR a).eq (plainR b)))) w) := by
  refine enter Tryd.func36 rfl Tryd.ntmps36 rfl ?_
  have hH := Hp.start w
  refine CW.seq ?_
  refine CW.region ?_
  refine RL.new rfl hH (f := fun b => (.pointer (some ⟨b, 0, none⟩))) (run_box (v := .agg _) rfl) ?_
  intro b3 w1 hH2
  refine RL.new rfl hH2 (f := fun b => (.pointer (some ⟨b, 0, none⟩))) (run_box (v := .agg _) rfl) ?_
  intro b6 w4 hH5
  refine RL.val rfl (run_assign (v := B false) rfl) ?_
  refine RL.nil ?_
  refine CW.seq ?_
  refine CW.regionD (by kernel_rfl) hH5 ?_
  intro w7 hH8
  refine AN.take 0 rfl rfl (by kernel_rfl) (by kernel_rfl) (by kernel_rfl) (hH8.sub (List.Sublist.refl _)) (fun w hS => run_ldRel Tryd.underlying25 rfl rfl rfl (hS.blk (i := 1) rfl)) ?_
  refine AN.take 2 rfl rfl (by kernel_rfl) (by kernel_rfl) (by kernel_rfl) (hH8.sub (List.Sublist.refl _)) (fun w hS => run_ldRel Tryd.underlying25 rfl rfl rfl (hS.blk (i := 0) rfl)) ?_
  refine AN.one 1 (by kernel_rfl) ?_
  refine AO.callP rfl gnone rfl hH8 (List.Sublist.refl _) (c_relate_plain _  _) (run_call1 Tryd.call89 rfl) ?_
  intro w9 hH10
  refine AN.one 3 (by kernel_rfl) ?_
  refine AO.callP rfl gnone rfl hH10 (List.Sublist.refl _) (c_relate_plain _  _) (run_call1 Tryd.call89 rfl) ?_
  intro w11 hH12
  refine AN.take 4 rfl rfl (by kernel_rfl) (by kernel_rfl) (by kernel_rfl) (hH12.sub (List.Sublist.refl _)) (fun w hS => run_eqlRel relT_fact rfl rfl) ?_
  refine AN.take 5 rfl rfl (by kernel_rfl) (by kernel_rfl) (by kernel_rfl) (hH12.sub (List.Sublist.refl _)) (fun w hS => run_assign (v := B _) rfl) ?_
  refine AN.done (by kernel_rfl) ?_
  refine CW.ret ?_
  refine outP1 Tryd.results36 (congrArg B ?_) hH12.below
  rfl

theorem c_clearanceref03_Same (a b : Rl) (w : World) : Calls Tryd.prog 72 #[.agg (relC a), .agg (relC b)] w (Pure (B (decide ((plainR a).eq (plainR b)))) w) := by
  refine enter Tryd.func72 rfl Tryd.ntmps72 rfl ?_
  have hH := Hp.start w
  refine CW.seq ?_
  refine CW.region ?_
  refine RL.new rfl hH (f := fun b => (.pointer (some ⟨b, 0, none⟩))) (run_box (v := .agg _) rfl) ?_
  intro b3 w1 hH2
  refine RL.new rfl hH2 (f := fun b => (.pointer (some ⟨b, 0, none⟩))) (run_box (v := .agg _) rfl) ?_
  intro b6 w4 hH5
  refine RL.val rfl (run_assign (v := B false) rfl) ?_
  refine RL.nil ?_
  refine CW.seq ?_
  refine CW.regionD (by kernel_rfl) hH5 ?_
  intro w7 hH8
  refine AN.take 0 rfl rfl (by kernel_rfl) (by kernel_rfl) (by kernel_rfl) (hH8.sub (List.Sublist.refl _)) (fun w hS => run_ldRel Tryd.underlying25 rfl rfl rfl (hS.blk (i := 1) rfl)) ?_
  refine AN.take 2 rfl rfl (by kernel_rfl) (by kernel_rfl) (by kernel_rfl) (hH8.sub (List.Sublist.refl _)) (fun w hS => run_ldRel Tryd.underlying25 rfl rfl rfl (hS.blk (i := 0) rfl)) ?_
  refine AN.one 1 (by kernel_rfl) ?_
  refine AO.callP rfl gnone rfl hH8 (List.Sublist.refl _) (c_clearanceref03_Plain _  _) (run_call1 Tryd.call37 rfl) ?_
  intro w9 hH10
  refine AN.one 3 (by kernel_rfl) ?_
  refine AO.callP rfl gnone rfl hH10 (List.Sublist.refl _) (c_clearanceref03_Plain _  _) (run_call1 Tryd.call37 rfl) ?_
  intro w11 hH12
  refine AN.take 4 rfl rfl (by kernel_rfl) (by kernel_rfl) (by kernel_rfl) (hH12.sub (List.Sublist.refl _)) (fun w hS => run_eqlRel relT_fact rfl rfl) ?_
  refine AN.take 5 rfl rfl (by kernel_rfl) (by kernel_rfl) (by kernel_rfl) (hH12.sub (List.Sublist.refl _)) (fun w hS => run_assign (v := B _) rfl) ?_
  refine AN.done (by kernel_rfl) ?_
  refine CW.ret ?_
  refine outP1 Tryd.results72 (congrArg B ?_) hH12.below
  rfl

theorem c_relate_Closed (r : Rl) (w : World) : Calls Tryd.prog 34 #[.agg (relC r)] w (Pure (B (decide ((plainR r).eq (cloR r)))) w) := by
  refine enter Tryd.func34 rfl Tryd.ntmps34 rfl ?_
  have hH := Hp.start w
  refine CW.seq ?_
  refine CW.region ?_
  refine RL.new rfl hH (f := fun b => (.pointer (some ⟨b, 0, none⟩))) (run_box (v := .agg _) rfl) ?_
  intro b3 w1 hH2
  refine RL.val rfl (run_assign (v := B false) rfl) ?_
  refine RL.nil ?_
  refine CW.seq ?_
  refine CW.regionD (by kernel_rfl) hH2 ?_
  intro w4 hH5
  refine AN.take 0 rfl rfl (by kernel_rfl) (by kernel_rfl) (by kernel_rfl) (hH5.sub (List.Sublist.refl _)) (fun w hS => run_ldRel Tryd.underlying25 rfl rfl rfl (hS.blk (i := 0) rfl)) ?_
  refine AN.take 2 rfl rfl (by kernel_rfl) (by kernel_rfl) (by kernel_rfl) (hH5.sub (List.Sublist.refl _)) (fun w hS => run_ldRel Tryd.underlying25 rfl rfl rfl (hS.blk (i := 0) rfl)) ?_
  refine AN.one 1 (by kernel_rfl) ?_
  refine AO.callP rfl gnone rfl hH5 (List.Sublist.refl _) (c_relate_plain _  _) (run_call1 Tryd.call89 rfl) ?_
  intro w6 hH7
  refine AN.one 3 (by kernel_rfl) ?_
  refine AO.callP rfl gnone rfl hH7 (List.Sublist.refl _) (c_relate_Closure _  _) (run_call1 Tryd.call24 rfl) ?_
  intro w8 hH9
  refine AN.take 4 rfl rfl (by kernel_rfl) (by kernel_rfl) (by kernel_rfl) (hH9.sub (List.Sublist.refl _)) (fun w hS => run_eqlRel relT_fact rfl rfl) ?_
  refine AN.take 5 rfl rfl (by kernel_rfl) (by kernel_rfl) (by kernel_rfl) (hH9.sub (List.Sublist.refl _)) (fun w hS => run_assign (v := B _) rfl) ?_
  refine AN.done (by kernel_rfl) ?_
  refine CW.ret ?_
  refine outP1 Tryd.results34 (congrArg B ?_) hH9.below
  rfl

theorem c_clearanceref03_Closed (r : Rl) (w : World) : Calls Tryd.prog 73 #[.agg (relC r)] w (Pure (B (decide ((plainR r).eq (cloR r)))) w) := by
  refine enter Tryd.func73 rfl Tryd.ntmps73 rfl ?_
  have hH := Hp.start w
  refine CW.seq ?_
  refine CW.region ?_
  refine RL.new rfl hH (f := fun b => (.pointer (some ⟨b, 0, none⟩))) (run_box (v := .agg _) rfl) ?_
  intro b3 w1 hH2
  refine RL.val rfl (run_assign (v := B false) rfl) ?_
  refine RL.nil ?_
  refine CW.seq ?_
  refine CW.regionD (by kernel_rfl) hH2 ?_
  intro w4 hH5
  refine AN.take 0 rfl rfl (by kernel_rfl) (by kernel_rfl) (by kernel_rfl) (hH5.sub (List.Sublist.refl _)) (fun w hS => run_ldRel Tryd.underlying25 rfl rfl rfl (hS.blk (i := 0) rfl)) ?_
  refine AN.take 1 rfl rfl (by kernel_rfl) (by kernel_rfl) (by kernel_rfl) (hH5.sub (List.Sublist.refl _)) (fun w hS => run_ldRel Tryd.underlying25 rfl rfl rfl (hS.blk (i := 0) rfl)) ?_
  refine AN.one 2 (by kernel_rfl) ?_
  refine AO.callP rfl gnone rfl hH5 (List.Sublist.refl _) (c_clearanceref03_Closure _  _) (run_call1 Tryd.call38 rfl) ?_
  intro w6 hH7
  refine AN.one 3 (by kernel_rfl) ?_
  refine AO.callP rfl gnone rfl hH7 (List.Sublist.refl _) (c_clearanceref03_Same _ _  _) (run_call2 Tryd.call72 rfl rfl) ?_
  intro w8 hH9
  refine AN.take 4 rfl rfl (by kernel_rfl) (by kernel_rfl) (by kernel_rfl) (hH9.sub (List.Sublist.refl _)) (fun w hS => run_assign (v := B _) rfl) ?_
  refine AN.done (by kernel_rfl) ?_
  refine CW.ret ?_
  refine outP1 Tryd.results73 (congrArg B ?_) hH9.below
  rw [plain_clo]

theorem c_relate_New (n : Int) (w : World) : Calls Tryd.prog 52 #[I n] w (Pure (.agg (relC (newR n))) w) := by
  refine enter Tryd.func52 rfl Tryd.ntmps52 rfl ?_
  have hH := Hp.start w
  refine CW.seq ?_
  refine CW.region ?_
  refine RL.new rfl hH (f := fun b => (.pointer (some ⟨b, 0, none⟩))) (run_alloc zero_rel) ?_
  intro b3 w1 hH2
  refine RL.nil ?_
  refine CW.seq ?_
  refine CW.region ?_
  refine RL.val rfl (run_move (v := I _) rfl) ?_
  refine RL.val rfl (run_bld (vs := [(0, I _)]) rfl (built_rel _)) ?_
  refine RL.callP rfl hH2 (c_relate_points _  _) (run_call1 Tryd.call93 rfl) ?_
  intro w4 hH5
  refine RL.val rfl (run_bld (vs := [(0, I _)]) rfl (built_rel _)) ?_
  refine RL.set hH5 (i := 0) rfl (run_stRel rfl rfl rfl (hH5.blk (i := 0) rfl)) ?_
  intro w6 hH7
  simp only [List.set_cons_zero, List.set_cons_succ] at hH7
  refine RL.nil ?_
  refine CW.ret ?_
  refine outC Tryd.results52 rfl hH7 (i := 0) rfl Tryd.underlying25 rfl rfl ⟨?_, hH7.below⟩
  rfl

theorem c_relate_Of (n : Int) (v : Value) (l : List (Int × Int)) (w : World) (hs : Sl w v 2 l.length (prL l)) : Calls Tryd.prog 43 #[I n, v] w (Pure (.agg (relC (ofR n l))) w) := by
  have hm := hs.small
  unfold maxLen at hm
  refine enter Tryd.func43 rfl Tryd.ntmps43 rfl ?_
  have hH := Hp.start w
  refine CW.seq ?_
  refine CW.region ?_
  refine RL.new rfl hH (f := fun b => (.pointer (some ⟨b, 0, none⟩))) (run_alloc zero_rel) ?_
  intro b3 w1 hH2
  refine RL.nil ?_
  refine CW.seq ?_
  refine CW.region ?_
  refine RL.val rfl (run_move (v := I _) rfl) ?_
  refine RL.callP rfl hH2 (c_relate_New _  _) (run_call1 Tryd.call52 rfl) ?_
  intro w4 hH5
  refine RL.new rfl hH5 (f := fun b => (.pointer (some ⟨b, 0, none⟩))) (run_alloc zero_rel) ?_
  intro b8 w6 hH7
  refine RL.set hH7 (i := 0) rfl (run_stRel rfl rfl rfl (hH7.blk (i := 0) rfl)) ?_
  intro w9 hH10
  simp only [List.set_cons_zero, List.set_cons_succ] at hH10
  refine RL.nil ?_
  refine CW.seq ?_
  refine CW.seq ?_
  refine CW.region ?_
  refine RL.val rfl (run_move (by conv => lhs; whnf)) ?_
  refine RL.val rfl (run_lenSl (hs.hp hH10) rfl Tryd.underlying46 rfl) ?_
  refine RL.val rfl (run_move (v := I 0) rfl) ?_
  refine RL.nil ?_
  refine CW.block ?_
  refine CW.loop (G := (Int) × (Rl)) (fun (⟨k, r1⟩ : (Int) × (Rl)) s' w' => (Fr [7, 12, 13, 14, 15, 16, 17, 18, 19, 20, 21, 22, 23, 24, 25, 26, 27, 28, 29, 30, 31, 32, 33, 34, 35, 36, 37, 38] _ s') ∧ (Hp w w' (.blk b8 (.cells (relC r1) 25 (0, 0)) :: _)) ∧ (s' 12 = I k) ∧ (0 ≤ k) ∧ (k ≤ l.length) ∧ (r1 = (l.take k.toNat).foldl addP (newR n))) (fun (⟨k, r1⟩ : (Int) × (Rl)) => (l.length - k).toNat) ((0, newR n)) ⟨Fr.refl _ _, hH10, rfl, (by omega), (by omega), rfl⟩ ?_
  rintro ⟨k, r1⟩ sg11 w11 ⟨fr11, hH11, e12_11, h0, hk, hr⟩
  have e4_11 : sg11 4 = .pointer (some ⟨_, _, none⟩) := (fr11 4 rfl).trans rfl
  have e5_11 : sg11 5 = .pointer (some ⟨_, _, none⟩) := (fr11 5 rfl).trans rfl
  have e10_11 := (fr11 10 rfl).trans (by conv => lhs; whnf)
  have e11_11 : sg11 11 = I _ := (fr11 11 rfl).trans rfl
  refine CW.seq ?_
  refine CW.region ?_
  refine RL.val rfl (run_lss e12_11 e11_11) ?_
  refine RL.nil ?_
  refine CW.seq ?_
  refine CW.condP rfl (fun h13 => ?_) (fun h13 => ?_)
  · refine CW.skip ?_
    refine CW.seq ?_
    refine CW.block ?_
    refine CW.seq ?_
    refine CW.region ?_
    refine RL.val rfl (run_indexAddrS (hs.hp hH11) Tryd.underlying46 Tryd.sizeOf27 e10_11 e12_11 (by first | exact isP_lt ‹isP r1 _ = true› | omega)) ?_
    refine RL.val rfl (run_ldPair (hs.hp hH11) Tryd.underlying27 rfl rfl rfl (by first | exact isP_lt ‹isP r1 _ = true› | omega)) ?_
    refine RL.new rfl hH11 (f := fun b => (.pointer (some ⟨b, 0, none⟩))) (run_alloc Tryd.zeroValue27) ?_
    intro b16 w14 hH15
    refine RL.set hH15 (i := 0) rfl (run_stW (c' := #[I _, I _]) rfl rfl rfl (pair_one _ _) (hH15.blk (i := 0) rfl) rfl) ?_
    intro w17 hH18
    simp only [List.set_cons_zero, List.set_cons_succ] at hH18
    refine RL.nil ?_
    refine CW.seq ?_
    refine CW.region ?_
    refine RL.val rfl (run_ldRel Tryd.underlying25 rfl rfl e5_11 (hH18.blk (i := 1) rfl)) ?_
    refine RL.val rfl (run_fieldAddr Tryd.underlying27 rfl (off := 0) rfl Tryd.sizeOf3 (by decide) rfl) ?_
    refine RL.val rfl (run_ld Tryd.underlying3 rfl rfl (hH18.cell (i := 0) rfl (v := I _) rfl)) ?_
    refine RL.callP rfl hH18 (c_relate_is _ _  _) (run_call2 Tryd.call95 rfl rfl) ?_
    intro w19 hH20
    refine RL.val rfl (run_move (v := B _) rfl) ?_
    refine RL.split (dj := 20) rfl (fun h22 => ?_) (fun h22 => ?_)
    · refine RL.gT rfl (bR (c := true) h22) ?_
      refine RL.val rfl (run_ldRel Tryd.underlying25 rfl rfl e5_11 (hH20.blk (i := 1) rfl)) ?_
      refine RL.gT rfl (bR (c := true) h22) ?_
      refine RL.val rfl (run_fieldAddr Tryd.underlying27 rfl (off := 1) rfl Tryd.sizeOf3 (by decide) rfl) ?_
      refine RL.gT rfl (bR (c := true) h22) ?_
      refine RL.val rfl (run_ld Tryd.underlying3 rfl rfl (hH20.cell (i := 0) rfl (v := I _) rfl)) ?_
      refine RL.gT rfl (bR (c := true) h22) ?_
      refine RL.callP rfl hH20 (c_relate_is _ _  _) (run_call2 Tryd.call95 rfl rfl) ?_
      intro w23 hH24
      refine RL.val rfl (run_pickT (bR (c := true) h22) (v := B _) rfl) ?_
      refine RL.nil ?_
      refine CW.cond rfl (fun h26 => ?_) (fun h26 => ?_)
      · refine CW.regionS (by kernel_rfl) hH24 (.cons_cons _ (.cons _ (List.Sublist.refl _))) ?_
        intro w27 hH28
        refine AN.take 0 rfl rfl (by kernel_rfl) (by kernel_rfl) (by kernel_rfl) (hH28.sub (.cons_cons _ (.cons _ (List.Sublist.refl _)))) (fun w hS => run_fieldAddr Tryd.underlying27 rfl (off := 0) rfl Tryd.sizeOf3 (by decide) rfl) ?_
        refine AN.take 1 rfl rfl (by kernel_rfl) (by kernel_rfl) (by kernel_rfl) (hH28.sub (.cons_cons _ (.cons _ (List.Sublist.refl _)))) (fun w hS => run_ld Tryd.underlying3 rfl rfl (hS.cell (i := 0) rfl (v := I _) rfl)) ?_
        refine AN.take 2 rfl rfl (by kernel_rfl) (by kernel_rfl) (by kernel_rfl) (hH28.sub (.cons_cons _ (.cons _ (List.Sublist.refl _)))) (fun w hS => run_fieldAddr Tryd.underlying27 rfl (off := 0) rfl Tryd.sizeOf3 (by decide) rfl) ?_
        refine AN.take 3 rfl rfl (by kernel_rfl) (by kernel_rfl) (by kernel_rfl) (hH28.sub (.cons_cons _ (.cons _ (List.Sublist.refl _)))) (fun w hS => run_ld Tryd.underlying3 rfl rfl (hS.cell (i := 0) rfl (v := I _) rfl)) ?_
        refine AN.take 4 rfl rfl (by kernel_rfl) (by kernel_rfl) (by kernel_rfl) (hH28.sub (.cons_cons _ (.cons _ (List.Sublist.refl _)))) (fun w hS => run_fieldAddr Tryd.underlying25 rfl (off := 1) rfl Tryd.sizeOf23 (by decide) e5_11) ?_
        refine AN.take 5 rfl rfl (by kernel_rfl) (by kernel_rfl) (by kernel_rfl) (hH28.sub (.cons_cons _ (.cons _ (List.Sublist.refl _)))) (fun w hS => run_indexAddrA Tryd.underlying23 Tryd.sizeOf22 rfl rfl (by first | exact isP_lt ‹isP r1 _ = true› | omega)) ?_
        refine AN.take 7 rfl rfl (by kernel_rfl) (by kernel_rfl) (by kernel_rfl) (hH28.sub (.cons_cons _ (.cons _ (List.Sublist.refl _)))) (fun w hS => run_fieldAddr Tryd.underlying27 rfl (off := 1) rfl Tryd.sizeOf3 (by decide) rfl) ?_
        refine AN.take 8 rfl rfl (by kernel_rfl) (by kernel_rfl) (by kernel_rfl) (hH28.sub (.cons_cons _ (.cons _ (List.Sublist.refl _)))) (fun w hS => run_ld Tryd.underlying3 rfl rfl (hS.cell (i := 0) rfl (v := I _) rfl)) ?_
        refine AN.take 10 rfl rfl (by kernel_rfl) (by kernel_rfl) (by kernel_rfl) (hH28.sub (.cons_cons _ (.cons _ (List.Sublist.refl _)))) (fun w hS => run_fieldAddr Tryd.underlying25 rfl (off := 1) rfl Tryd.sizeOf23 (by decide) e5_11) ?_
        refine AN.one 6 (by kernel_rfl) ?_
        refine AO.read rfl gnone rfl hH28 (.cons_cons _ (.cons _ (List.Sublist.refl _))) (run_ld Tryd.underlying22 rfl rfl (hH28.cell (i := 1) rfl (relC_up _ (by have := isP_lt ‹isP r1 (l.getD k.toNat (0, 0)).1 = true›; omega)))) ?_
        refine AN.one 9 (by kernel_rfl) ?_
        refine AO.callP rfl gnone rfl hH28 (.cons_cons _ (.cons _ (List.Sublist.refl _))) (c_mask_With _ _  _) (run_call2 Tryd.call90 rfl rfl) ?_
        intro w31 hH32
        refine AN.take 11 rfl rfl (by kernel_rfl) (by kernel_rfl) (by kernel_rfl) (hH32.sub (.cons_cons _ (.cons _ (List.Sublist.refl _)))) (fun w hS => run_indexAddrA Tryd.underlying23 Tryd.sizeOf22 rfl rfl (by first | exact isP_lt ‹isP r1 _ = true› | omega)) ?_
        refine AN.one 12 (by kernel_rfl) ?_
        refine AO.set rfl gnone hH32 (j := 1) rfl (.cons_cons _ (.cons _ (List.Sublist.refl _))) (run_st rfl rfl (v := U _) rfl rfl rfl (hH32.blk (i := 1) rfl) (by rw [relC_size]; have := isP_lt ‹isP r1 (l.getD k.toNat (0, 0)).1 = true›; omega)) ?_
        intro w35 hH36
        simp only [List.set_cons_zero, List.set_cons_succ] at hH36
        rw [relC_put] at hH36
        refine AN.done (by kernel_rfl) ?_
        refine CW.region ?_
        refine RL.val rfl (run_add e12_11 rfl (by omega)) ?_
        refine RL.val rfl (run_move (v := I _) rfl) ?_
        refine RL.nil ?_
        refine ⟨(k + 1, _), ?_, (((((((((((((((((((((((((((fr11.u rfl).u rfl).u rfl).u rfl).u rfl).u rfl).u rfl).u rfl).u rfl).u rfl).u rfl).u rfl).u rfl).u rfl).u rfl).u rfl).u rfl).u rfl).u rfl).u rfl).u rfl).u rfl).u rfl).u rfl).u rfl).u rfl).u rfl).u rfl, (hH36.sub (.cons _ (List.Sublist.refl _))), (congrArg I (by first | rfl | omega)), ?_, ?_, ?_⟩
        · ((try dsimp only); omega)
        · omega
        · omega
        · rw [of_next h0 ‹_›, ← hr]; first | exact (addP_yes ‹_› ‹_›).symm | exact (addP_no1 ‹_›).symm | exact (addP_no2 ‹_›).symm
      · refine CW.skip ?_
        refine CW.region ?_
        refine RL.val rfl (run_add e12_11 rfl (by omega)) ?_
        refine RL.val rfl (run_move (v := I _) rfl) ?_
        refine RL.nil ?_
        refine ⟨(k + 1, _), ?_, (((((((((((((((fr11.u rfl).u rfl).u rfl).u rfl).u rfl).u rfl).u rfl).u rfl).u rfl).u rfl).u rfl).u rfl).u rfl).u rfl).u rfl).u rfl, (hH24.sub (.cons _ (List.Sublist.refl _))), (congrArg I (by first | rfl | omega)), ?_, ?_, ?_⟩
        · ((try dsimp only); omega)
        · omega
        · omega
        · rw [of_next h0 ‹_›, ← hr]; first | exact (addP_yes ‹_› ‹_›).symm | exact (addP_no1 ‹_›).symm | exact (addP_no2 ‹_›).symm
    · refine RL.gF rfl rfl (bR (c := false) h22) rfl ?_
      refine RL.gF rfl rfl (bR (c := false) h22) rfl ?_
      refine RL.gF rfl rfl (bR (c := false) h22) rfl ?_
      refine RL.gF rfl rfl (bR (c := false) h22) rfl ?_
      refine RL.val rfl (run_pickF (bR (c := false) h22) (v := B false) rfl) ?_
      refine RL.nil ?_
      refine CW.condF rfl ?_
      refine CW.skip ?_
      refine CW.region ?_
      refine RL.val rfl (run_add e12_11 rfl (by omega)) ?_
      refine RL.val rfl (run_move (v := I _) rfl) ?_
      refine RL.nil ?_
      refine ⟨(k + 1, _), ?_, (((((((((((((((fr11.u rfl).u rfl).u rfl).u rfl).u rfl).u rfl).u rfl).u rfl).u rfl).u rfl).u rfl).u rfl).u rfl).u rfl).u rfl).u rfl, (hH20.sub (.cons _ (List.Sublist.refl _))), (congrArg I (by first | rfl | omega)), ?_, ?_, ?_⟩
      · ((try dsimp only); omega)
      · omega
      · omega
      · rw [of_next h0 ‹_›, ← hr]; first | exact (addP_yes ‹_› ‹_›).symm | exact (addP_no1 ‹_›).symm | exact (addP_no2 ‹_›).symm
  · refine CW.exit (id := 0) rfl ?_
    refine CW.seq ?_
    refine CW.region ?_
    refine RL.val rfl (run_ldRel Tryd.underlying25 rfl rfl e5_11 (hH11.blk (i := 0) rfl)) ?_
    refine RL.set hH11 (i := 1) rfl (run_stRel rfl e4_11 rfl (hH11.blk (i := 1) rfl)) ?_
    intro w37 hH38
    simp only [List.set_cons_zero, List.set_cons_succ] at hH38
    refine RL.nil ?_
    refine CW.ret ?_
    refine outC Tryd.results43 e4_11 hH38 (i := 1) rfl Tryd.underlying25 rfl rfl ⟨?_, hH38.below⟩
    (rw [hr, List.take_of_length_le (by omega)]; rfl)

theorem c_relate_With (r : Rl) (i j : Int) (w : World) : Calls Tryd.prog 53 #[.agg (relC r), I i, I j] w (Pure (.agg (relC (withR r i j))) w) := by
  refine enter Tryd.func53 rfl Tryd.ntmps53 rfl ?_
  have hH := Hp.start w
  refine CW.seq ?_
  refine CW.region ?_
  refine RL.new rfl hH (f := fun b => (.pointer (some ⟨b, 0, none⟩))) (run_box (v := .agg _) rfl) ?_
  intro b3 w1 hH2
  refine RL.new rfl hH2 (f := fun b => (.pointer (some ⟨b, 0, none⟩))) (run_alloc zero_rel) ?_
  intro b6 w4 hH5
  refine RL.nil ?_
  refine CW.seq ?_
  refine CW.region ?_
  refine RL.val rfl (run_ldRel Tryd.underlying25 rfl rfl rfl (hH5.blk (i := 1) rfl)) ?_
  refine RL.callP rfl hH5 (c_relate_plain _  _) (run_call1 Tryd.call89 rfl) ?_
  intro w7 hH8
  refine RL.new rfl hH8 (f := fun b => (.pointer (some ⟨b, 0, none⟩))) (run_alloc zero_rel) ?_
  intro b11 w9 hH10
  refine RL.set hH10 (i := 0) rfl (run_stRel rfl rfl rfl (hH10.blk (i := 0) rfl)) ?_
  intro w12 hH13
  simp only [List.set_cons_zero, List.set_cons_succ] at hH13
  refine RL.nil ?_
  refine CW.seq ?_
  refine CW.seq ?_
  refine CW.region ?_
  refine RL.val rfl (run_ldRel Tryd.underlying25 rfl rfl rfl (hH13.blk (i := 2) rfl)) ?_
  refine RL.val rfl (run_move (v := I _) rfl) ?_
  refine RL.callP rfl hH13 (c_relate_is _ _  _) (run_call2 Tryd.call95 rfl rfl) ?_
  intro w14 hH15
  refine RL.val rfl (run_move (v := B _) rfl) ?_
  refine RL.split (dj := 13) rfl (fun h17 => ?_) (fun h17 => ?_)
  · refine RL.gT rfl (bR (c := true) h17) ?_
    refine RL.val rfl (run_ldRel Tryd.underlying25 rfl rfl rfl (hH15.blk (i := 2) rfl)) ?_
    refine RL.gT rfl (bR (c := true) h17) ?_
    refine RL.val rfl (run_move (v := I _) rfl) ?_
    refine RL.gT rfl (bR (c := true) h17) ?_
    refine RL.callP rfl hH15 (c_relate_is _ _  _) (run_call2 Tryd.call95 rfl rfl) ?_
    intro w18 hH19
    refine RL.val rfl (run_pickT (bR (c := true) h17) (v := B _) rfl) ?_
    refine RL.nil ?_
    refine CW.cond rfl (fun h21 => ?_) (fun h21 => ?_)
    · refine CW.region ?_
      refine RL.val rfl (run_move (v := I _) rfl) ?_
      refine RL.val rfl (run_move (v := I _) rfl) ?_
      refine RL.val rfl (run_fieldAddr Tryd.underlying25 rfl (off := 1) rfl Tryd.sizeOf23 (by decide) rfl) ?_
      refine RL.val rfl (run_indexAddrA Tryd.underlying23 Tryd.sizeOf22 rfl rfl (by first | exact isP_lt ‹isP r _ = true› | omega)) ?_
      refine RL.val rfl (run_ld Tryd.underlying22 rfl rfl (hH19.cell (i := 0) rfl (relC_up _ (by have := isP_lt ‹isP r i = true›; omega)))) ?_
      refine RL.val rfl (run_move (v := I _) rfl) ?_
      refine RL.callP rfl hH19 (c_mask_With _ _  _) (run_call2 Tryd.call90 rfl rfl) ?_
      intro w22 hH23
      refine RL.val rfl (run_fieldAddr Tryd.underlying25 rfl (off := 1) rfl Tryd.sizeOf23 (by decide) rfl) ?_
      refine RL.val rfl (run_indexAddrA Tryd.underlying23 Tryd.sizeOf22 rfl rfl (by first | exact isP_lt ‹isP r _ = true› | omega)) ?_
      refine RL.set hH23 (i := 0) rfl (run_st rfl rfl (v := U _) rfl rfl rfl (hH23.blk (i := 0) rfl) (by rw [relC_size]; have := isP_lt ‹isP r i = true›; omega)) ?_
      intro w24 hH25
      simp only [List.set_cons_zero, List.set_cons_succ] at hH25
      rw [relC_put] at hH25
      refine RL.nil ?_
      refine CW.seq ?_
      refine CW.region ?_
      refine RL.val rfl (run_ldRel Tryd.underlying25 rfl rfl rfl (hH25.blk (i := 0) rfl)) ?_
      refine RL.set hH25 (i := 1) rfl (run_stRel rfl rfl rfl (hH25.blk (i := 1) rfl)) ?_
      intro w26 hH27
      simp only [List.set_cons_zero, List.set_cons_succ] at hH27
      refine RL.nil ?_
      refine CW.ret ?_
      refine outC Tryd.results53 rfl hH27 (i := 1) rfl Tryd.underlying25 rfl rfl ⟨?_, hH27.below⟩
      first | (rw [withR, ‹isP r i = true›, ‹isP r j = true›]; rfl) | (rw [withR, ‹isP r i = true›, ‹isP r j = false›]; rfl) | (rw [withR, ‹isP r i = false›]; rfl)
    · refine CW.skip ?_
      refine CW.seq ?_
      refine CW.region ?_
      refine RL.val rfl (run_ldRel Tryd.underlying25 rfl rfl rfl (hH19.blk (i := 0) rfl)) ?_
      refine RL.set hH19 (i := 1) rfl (run_stRel rfl rfl rfl (hH19.blk (i := 1) rfl)) ?_
      intro w28 hH29
      simp only [List.set_cons_zero, List.set_cons_succ] at hH29
      refine RL.nil ?_
      refine CW.ret ?_
      refine outC Tryd.results53 rfl hH29 (i := 1) rfl Tryd.underlying25 rfl rfl ⟨?_, hH29.below⟩
      first | (rw [withR, ‹isP r i = true›, ‹isP r j = true›]; rfl) | (rw [withR, ‹isP r i = true›, ‹isP r j = false›]; rfl) | (rw [withR, ‹isP r i = false›]; rfl)
  · refine RL.gF rfl rfl (bR (c := false) h17) rfl ?_
    refine RL.gF rfl rfl (bR (c := false) h17) rfl ?_
    refine RL.gF rfl rfl (bR (c := false) h17) rfl ?_
    refine RL.val rfl (run_pickF (bR (c := false) h17) (v := B false) rfl) ?_
    refine RL.nil ?_
    refine CW.condF rfl ?_
    refine CW.skip ?_
    refine CW.seq ?_
    refine CW.region ?_
    refine RL.val rfl (run_ldRel Tryd.underlying25 rfl rfl rfl (hH15.blk (i := 0) rfl)) ?_
    refine RL.set hH15 (i := 1) rfl (run_stRel rfl rfl rfl (hH15.blk (i := 1) rfl)) ?_
    intro w30 hH31
    simp only [List.set_cons_zero, List.set_cons_succ] at hH31
    refine RL.nil ?_
    refine CW.ret ?_
    refine outC Tryd.results53 rfl hH31 (i := 1) rfl Tryd.underlying25 rfl rfl ⟨?_, hH31.below⟩
    first | (rw [withR, ‹isP r i = true›, ‹isP r j = true›]; rfl) | (rw [withR, ‹isP r i = true›, ‹isP r j = false›]; rfl) | (rw [withR, ‹isP r i = false›]; rfl)

theorem c_relate_mutual (r : Rl) (i : Int) (w : World) (hT : Tab w) : Calls Tryd.prog 106 #[.agg (relC r), I i] w (Pure (U (mutualR r i)) w) := by
  refine enter Tryd.func106 rfl Tryd.ntmps106 rfl ?_
  have hH := Hp.start w
  refine CW.seq ?_
  refine CW.region ?_
  refine RL.new rfl hH (f := fun b => (.pointer (some ⟨b, 0, none⟩))) (run_box (v := .agg _) rfl) ?_
  intro b3 w1 hH2
  refine RL.val rfl (run_assign (v := U 0#64) rfl) ?_
  refine RL.nil ?_
  refine CW.seq ?_
  refine CW.region ?_
  refine RL.val rfl (run_move (v := I _) rfl) ?_
  refine RL.new rfl hH2 (f := fun b => (.slice (some ⟨b, 0, none⟩) 1 1)) (run_mkL Tryd.underlying36 rfl rfl (sz := 1) (vs := [I _]) rfl rfl (by decide) (by decide) rfl rfl) ?_
  intro b6 w4 hH5
  (try simp only [List.flatMap_cons, List.flatMap_nil, clI, clB, clS, clP, clL, clA, List.append_nil, List.cons_append, List.nil_append] at hH5)
  refine RL.callP rfl hH5 (c_mask_Of _ [i] _ (hH5.slBlk (i := 0) (n := 1) (sz := 1) rfl rfl (by decide))) (run_call1 Tryd.call65 rfl) ?_
  intro w7 hH8
  refine RL.val rfl (run_assign (v := U _) rfl) ?_
  refine RL.nil ?_
  refine CW.seq ?_
  refine CW.regionD (by kernel_rfl) hH8 ?_
  intro w9 hH10
  refine AN.take 0 rfl rfl (by kernel_rfl) (by kernel_rfl) (by kernel_rfl) (hH10.sub (List.Sublist.refl _)) (fun w hS => run_ldRel Tryd.underlying25 rfl rfl rfl (hS.blk (i := 1) rfl)) ?_
  refine AN.take 1 rfl rfl (by kernel_rfl) (by kernel_rfl) (by kernel_rfl) (hH10.sub (List.Sublist.refl _)) (fun w hS => run_move (v := U _) rfl) ?_
  refine AN.take 3 rfl rfl (by kernel_rfl) (by kernel_rfl) (by kernel_rfl) (hH10.sub (List.Sublist.refl _)) (fun w hS => run_ldRel Tryd.underlying25 rfl rfl rfl (hS.blk (i := 1) rfl)) ?_
  refine AN.take 4 rfl rfl (by kernel_rfl) (by kernel_rfl) (by kernel_rfl) (hH10.sub (List.Sublist.refl _)) (fun w hS => run_move (v := U _) rfl) ?_
  refine AN.one 2 (by kernel_rfl) ?_
  refine AO.callP rfl gnone rfl hH10 (List.Sublist.refl _) (c_relate_Up _ _  _ (hT.hp hH10)) (run_call2 Tryd.call32 rfl rfl) ?_
  intro w11 hH12
  refine AN.one 5 (by kernel_rfl) ?_
  refine AO.callP rfl gnone rfl hH12 (List.Sublist.refl _) (c_relate_Down _ _  _) (run_call2 Tryd.call33 rfl rfl) ?_
  intro w13 hH14
  refine AN.take 6 rfl rfl (by kernel_rfl) (by kernel_rfl) (by kernel_rfl) (hH14.sub (List.Sublist.refl _)) (fun w hS => run_andU rfl rfl) ?_
  refine AN.take 7 rfl rfl (by kernel_rfl) (by kernel_rfl) (by kernel_rfl) (hH14.sub (List.Sublist.refl _)) (fun w hS => run_assign (v := U _) rfl) ?_
  refine AN.done (by kernel_rfl) ?_
  refine CW.ret ?_
  refine outP1 Tryd.results106 (congrArg U ?_) hH14.below
  rfl

theorem c_relate_Order (r : Rl) (w : World) (hT : Tab w) : Calls Tryd.prog 74 #[.agg (relC r)] w (Pure (B (orderB r)) w) := by
  have hp := pts_bd r
  refine enter Tryd.func74 rfl Tryd.ntmps74 rfl ?_
  have hH := Hp.start w
  refine CW.seq ?_
  refine CW.region ?_
  refine RL.new rfl hH (f := fun b => (.pointer (some ⟨b, 0, none⟩))) (run_box (v := .agg _) rfl) ?_
  intro b3 w1 hH2
  refine RL.val rfl (run_assign (v := B false) rfl) ?_
  refine RL.nil ?_
  refine CW.seq ?_
  refine CW.seq ?_
  refine CW.region ?_
  refine RL.val rfl (run_ldRel Tryd.underlying25 rfl rfl rfl (hH2.blk (i := 0) rfl)) ?_
  refine RL.callP rfl hH2 (c_relate_Closed _  _) (run_call1 Tryd.call34 rfl) ?_
  intro w4 hH5
  refine RL.val rfl (run_notP rfl) ?_
  refine RL.nil ?_
  refine CW.condP rfl (fun h9 => ?_) (fun h9 => ?_)
  · refine CW.seq ?_
    refine CW.region ?_
    refine RL.val rfl (run_assign (v := B false) rfl) ?_
    refine RL.nil ?_
    refine CW.ret ?_
    refine outP1 Tryd.results74 (congrArg B ?_) hH5.below
    exact (order_no0 ‹_›).symm
  · refine CW.skip ?_
    refine CW.seq ?_
    refine CW.seq ?_
    refine CW.region ?_
    refine RL.val rfl (run_ldRel Tryd.underlying25 rfl rfl rfl (hH5.blk (i := 0) rfl)) ?_
    refine RL.callP rfl hH5 (c_relate_points _  _) (run_call1 Tryd.call93 rfl) ?_
    intro w10 hH11
    refine RL.val rfl (run_move (v := I 0) rfl) ?_
    refine RL.nil ?_
    refine CW.block ?_
    have hc := Decidable.of_not_not ‹¬ ¬ (plainR r).eq (cloR r)›
    refine CW.loop (G := (Int)) (fun (k : Int) s' w' => (Fr [2, 3, 9, 10, 11, 12, 13, 14, 15, 16, 17, 18, 19] _ s') ∧ (Hp w w' _) ∧ (s' 9 = I k) ∧ (0 ≤ k) ∧ (k ≤ pts r) ∧ (∀ j : Int, 0 ≤ j → j < k → mutualR r j = ofl [j])) (fun (k : Int) => (pts r - k).toNat) (0) ⟨Fr.refl _ _, hH11, rfl, (by omega), (by omega), fun j a b => absurd b (by omega)⟩ ?_
    rintro k sg12 w12 ⟨fr12, hH12, e9_12, h0, hk, hf⟩
    have e1_12 : sg12 1 = .pointer (some ⟨_, _, none⟩) := (fr12 1 rfl).trans rfl
    have e8_12 : sg12 8 = I _ := (fr12 8 rfl).trans rfl
    refine CW.seq ?_
    refine CW.region ?_
    refine RL.val rfl (run_lss e9_12 e8_12) ?_
    refine RL.nil ?_
    refine CW.seq ?_
    refine CW.condP rfl (fun h14 => ?_) (fun h14 => ?_)
    · refine CW.skip ?_
      refine CW.seq ?_
      refine CW.block ?_
      refine CW.seq ?_
      refine CW.region ?_
      refine RL.val rfl (run_move e9_12) ?_
      refine RL.val rfl (run_assign (v := I _) rfl) ?_
      refine RL.nil ?_
      refine CW.seq ?_
      refine CW.region ?_
      refine RL.val rfl (run_ldRel Tryd.underlying25 rfl rfl e1_12 (hH12.blk (i := 0) rfl)) ?_
      refine RL.val rfl (run_move (v := I _) rfl) ?_
      refine RL.callP rfl hH12 (c_relate_mutual _ _  _ (hT.hp hH12)) (run_call2 Tryd.call106 rfl rfl) ?_
      intro w15 hH16
      refine RL.val rfl (run_move (v := I _) rfl) ?_
      refine RL.new rfl hH16 (f := fun b => (.slice (some ⟨b, 0, none⟩) 1 1)) (run_mkL Tryd.underlying36 rfl rfl (sz := 1) (vs := [I _]) rfl rfl (by decide) (by decide) rfl rfl) ?_
      intro b19 w17 hH18
      (try simp only [List.flatMap_cons, List.flatMap_nil, clI, clB, clS, clP, clL, clA, List.append_nil, List.cons_append, List.nil_append] at hH18)
      refine RL.callP rfl hH18 (c_mask_Of _ [k] _ (hH18.slBlk (i := 0) (n := 1) (sz := 1) rfl rfl (by decide))) (run_call1 Tryd.call65 rfl) ?_
      intro w20 hH21
      refine RL.val rfl (run_neqU rfl rfl) ?_
      refine RL.nil ?_
      refine CW.condP rfl (fun h23 => ?_) (fun h23 => ?_)
      · refine CW.seq ?_
        refine CW.region ?_
        refine RL.val rfl (run_assign (v := B false) rfl) ?_
        refine RL.nil ?_
        refine CW.ret ?_
        refine outP1 Tryd.results74 (congrArg B ?_) hH21.below
        exact (order_no hc ⟨h0, by omega⟩ ‹_›).symm
      · refine CW.skip ?_
        refine CW.region ?_
        refine RL.val rfl (run_add e9_12 rfl (by omega)) ?_
        refine RL.val rfl (run_move (v := I _) rfl) ?_
        refine RL.nil ?_
        refine ⟨k + 1, ?_, (((((((((((fr12.u rfl).u rfl).u rfl).u rfl).u rfl).u rfl).u rfl).u rfl).u rfl).u rfl).u rfl).u rfl, (hH21.sub (.cons _ (List.Sublist.refl _))), (congrArg I (by first | rfl | omega)), ?_, ?_, ?_⟩
        · ((try dsimp only); omega)
        · omega
        · omega
        · exact fun j a b => if e : j = k then e ▸ Decidable.of_not_not ‹_› else hf j a (by omega)
    · refine CW.exit (id := 0) rfl ?_
      refine CW.seq ?_
      refine CW.region ?_
      refine RL.val rfl (run_assign (v := B true) rfl) ?_
      refine RL.nil ?_
      refine CW.ret ?_
      refine outP1 Tryd.results74 (congrArg B ?_) hH12.below
      exact (order_yes hc fun j a b => hf j a (by omega)).symm

theorem c_relate_Long (r : Rl) (w : World) (hT : Tab w) : Calls Tryd.prog 41 #[.agg (relC r)] w (Pure (.tuple #[I (longV r).1, B (longV r).2]) w) := by
  have hp := pts_bd r
  refine enter Tryd.func41 rfl Tryd.ntmps41 rfl ?_
  have hH := Hp.start w
  refine CW.seq ?_
  refine CW.region ?_
  refine RL.new rfl hH (f := fun b => (.pointer (some ⟨b, 0, none⟩))) (run_box (v := .agg _) rfl) ?_
  intro b3 w1 hH2
  refine RL.val rfl (run_assign (v := I 0) rfl) ?_
  refine RL.val rfl (run_assign (v := B false) rfl) ?_
  refine RL.nil ?_
  refine CW.seq ?_
  refine CW.seq ?_
  refine CW.region ?_
  refine RL.val rfl (run_ldRel Tryd.underlying25 rfl rfl rfl (hH2.blk (i := 0) rfl)) ?_
  refine RL.callP rfl hH2 (c_relate_Order _  _ (hT.hp hH2)) (run_call1 Tryd.call74 rfl) ?_
  intro w4 hH5
  refine RL.val rfl (run_not rfl) ?_
  refine RL.nil ?_
  refine CW.cond rfl (fun h8 => ?_) (fun h8 => ?_)
  · refine CW.seq ?_
    refine CW.region ?_
    refine RL.val rfl (run_assign (v := I 0) rfl) ?_
    refine RL.val rfl (run_assign (v := B false) rfl) ?_
    refine RL.nil ?_
    refine CW.ret ?_
    have hord : orderB r = false := nt ‹_›
    refine outP2 Tryd.results41 (congrArg I ?_) (congrArg B ?_) hH5.below <;> rw [longV, hord] <;> rfl
  · refine CW.skip ?_
    refine CW.seq ?_
    refine CW.region ?_
    refine RL.val rfl (run_ldRel Tryd.underlying25 rfl rfl rfl (hH5.blk (i := 0) rfl)) ?_
    refine RL.callP rfl hH5 (c_relate_points _  _) (run_call1 Tryd.call93 rfl) ?_
    intro w9 hH10
    refine RL.callP rfl hH10 (c_mask_Below _  _) (run_call1 Tryd.call92 rfl) ?_
    intro w11 hH12
    refine RL.val rfl (run_assign (v := U _) rfl) ?_
    refine RL.nil ?_
    refine CW.seq ?_
    refine CW.region ?_
    refine RL.val rfl (run_assign (v := I 0) rfl) ?_
    refine RL.nil ?_
    refine CW.block ?_
    have hord : orderB r = true := nf ‹_›
    refine CW.loop (G := (Int) × (BitVec 64)) (fun (⟨k, s⟩ : (Int) × (BitVec 64)) s' w' => (Fr [2, 3, 4, 5, 6, 8, 15, 16, 17, 18, 19, 20, 21, 22, 23, 24, 25, 26, 27, 28, 29, 30, 31, 32, 33, 34, 35, 36] _ s') ∧ (Hp w w' _) ∧ (s' 4 = U s) ∧ (s' 5 = I k) ∧ (0 ≤ k) ∧ ((lst s).length + k ≤ 64) ∧ (∀ j : Nat, s.getLsbD j = true → (j : Int) < pts r) ∧ (longF r (65 - k.toNat) s k = longF r 65 (below (pts r)) 0)) (fun (⟨k, s⟩ : (Int) × (BitVec 64)) => ((65 : Int) - k).toNat) ((0, below (pts r))) ⟨Fr.refl _ _, hH12, rfl, rfl, (by omega), (by have := lst_len (below (pts r)); omega), below_in, rfl⟩ ?_
    rintro ⟨k, s⟩ sg13 w13 ⟨fr13, hH13, e4_13, e5_13, k0, hl, hs, hF⟩
    have e1_13 : sg13 1 = .pointer (some ⟨_, _, none⟩) := (fr13 1 rfl).trans rfl
    refine CW.block ?_
    refine CW.seq ?_
    refine CW.region ?_
    refine RL.val rfl (run_assign (v := U 0#64) rfl) ?_
    refine RL.nil ?_
    refine CW.seq ?_
    refine CW.seq ?_
    refine CW.region ?_
    refine RL.val rfl (run_move e4_13) ?_
    refine RL.callR rfl hH13 (c_mask_List _  _ (hT.hp hH13)) (run_call1 Tryd.call84 rfl) ?_
    intro v16 w14 hH15
    refine RL.val rfl (run_lenSl (hH15.sl (i := 0) rfl) rfl Tryd.underlying36 rfl) ?_
    refine RL.val rfl (run_move (v := I 0) rfl) ?_
    refine RL.nil ?_
    refine CW.block ?_
    have hll := lst_len s
    refine CW.loop (G := (Int)) (fun (j : Int) s' w' => (Fr [6, 8, 18, 19, 20, 21, 22, 23, 24, 25, 26, 27] _ s') ∧ (Hp w w' _) ∧ (s' 6 = U (orAll (strictR r) ((lst s).take j.toNat))) ∧ (s' 18 = I j) ∧ (0 ≤ j) ∧ (j ≤ (lst s).length)) (fun (j : Int) => ((lst s).length - j).toNat) (0) ⟨Fr.refl _ _, hH15, (congrArg U (by simp [orAll])), rfl, (by omega), (by omega)⟩ ?_
    rintro j sg17 w17 ⟨fr17, hH17, e6_17, e18_17, j0, j1⟩
    have e1_17 := (fr17 1 rfl).trans e1_13
    have e4_17 := (fr17 4 rfl).trans e4_13
    have e5_17 := (fr17 5 rfl).trans e5_13
    have e15_17 : sg17 15 = U _ := (fr17 15 rfl).trans rfl
    have e16_17 := (fr17 16 rfl).trans (by conv => lhs; whnf)
    have e17_17 : sg17 17 = I _ := (fr17 17 rfl).trans rfl
    refine CW.seq ?_
    refine CW.region ?_
    refine RL.val rfl (run_lss e18_17 e17_17) ?_
    refine RL.nil ?_
    refine CW.seq ?_
    refine CW.condP rfl (fun h19 => ?_) (fun h19 => ?_)
    · refine CW.skip ?_
      refine CW.seq ?_
      refine CW.block ?_
      refine CW.seq ?_
      refine CW.region ?_
      refine RL.val rfl (run_indexAddrS (hH17.sl (i := 0) rfl) Tryd.underlying36 Tryd.sizeOf3 e16_17 e18_17 (by omega)) ?_
      refine RL.val rfl (run_ld Tryd.underlying3 rfl rfl ((hH17.sl (i := 0) rfl).cell _ _ (map_at (by omega)))) ?_
      refine RL.val rfl (run_assign (v := I _) rfl) ?_
      refine RL.nil ?_
      refine CW.region ?_
      refine RL.val rfl (run_move e6_17) ?_
      refine RL.val rfl (run_ldRel Tryd.underlying25 rfl rfl e1_17 (hH17.blk (i := 1) rfl)) ?_
      refine RL.val rfl (run_move (v := I _) rfl) ?_
      refine RL.callP rfl hH17 (c_relate_strict _ _ (by first | assumption | omega | (dsimp only at *; omega) | exact lst_at_bd (by assumption) (by assumption) | exact low_bd (lst_at (by assumption) (by assumption))) _) (run_call2 Tryd.call97 rfl rfl) ?_
      intro w20 hH21
      refine RL.val rfl (run_orU rfl rfl) ?_
      refine RL.val rfl (run_assign (v := U _) rfl) ?_
      refine RL.nil ?_
      refine CW.region ?_
      refine RL.val rfl (run_add e18_17 rfl (by omega)) ?_
      refine RL.val rfl (run_move (v := I _) rfl) ?_
      refine RL.nil ?_
      refine ⟨j + 1, ?_, (((((((((((fr17.u rfl).u rfl).u rfl).u rfl).u rfl).u rfl).u rfl).u rfl).u rfl).u rfl).u rfl).u rfl, hH21, (congrArg U (orAll_next j0 ‹_›)), (congrArg I (by first | rfl | omega)), ?_, ?_⟩
      · ((try dsimp only); omega)
      · omega
      · omega
    · refine CW.exit (id := 2) rfl ?_
      refine CW.seq ?_
      refine CW.region ?_
      refine RL.val rfl (run_move e6_17) ?_
      refine RL.val rfl (run_move e4_17) ?_
      refine RL.val rfl (run_andU rfl rfl) ?_
      refine RL.val rfl (run_assign (v := U _) rfl) ?_
      refine RL.nil ?_
      refine CW.seq ?_
      refine CW.seq ?_
      refine CW.region ?_
      refine RL.val rfl (run_move (v := U _) rfl) ?_
      refine RL.val rfl (run_eqlU rfl (b := 0#64) rfl) ?_
      refine RL.nil ?_
      refine CW.condP rfl (fun h23 => ?_) (fun h23 => ?_)
      · refine CW.seq ?_
        refine CW.region ?_
        refine RL.val rfl (run_move e5_17) ?_
        refine RL.val rfl (run_assign (v := I _) rfl) ?_
        refine RL.val rfl (run_assign (v := B true) rfl) ?_
        refine RL.nil ?_
        refine CW.ret ?_
        rw [take_all ‹_›] at *
        refine outP2 Tryd.results41 (congrArg I ?_) (congrArg B ?_) hH17.below <;> rw [longV, hord]
        · show k = longF r 65 (below (pts r)) 0
          rw [← hF]; exact (longF_end k0 (by omega) ‹_›).symm
        · rfl
      · refine CW.skip ?_
        refine CW.seq ?_
        refine CW.region ?_
        refine RL.val rfl (run_move (v := U _) rfl) ?_
        refine RL.val rfl (run_assign (v := U _) rfl) ?_
        refine RL.nil ?_
        refine CW.region ?_
        refine RL.val rfl (run_move e5_17) ?_
        refine RL.val rfl (run_add rfl rfl (by omega)) ?_
        refine RL.val rfl (run_assign (v := I _) rfl) ?_
        refine RL.nil ?_
        refine ⟨(k + 1, stepL r s), ?_, ((((((((((((((((((fr13.u rfl).u rfl).u rfl).u rfl).u rfl).t fr17 rfl)).u rfl).u rfl).u rfl).u rfl).u rfl).u rfl).u rfl).u rfl).u rfl).u rfl).u rfl).u rfl, (hH17.sub (.cons _ (List.Sublist.refl _))), (congrArg U (by rw [take_all ‹_›]; rfl)), (congrArg I (by first | rfl | omega)), ?_, ?_, ?_, ?_⟩
        · ((try dsimp only); omega)
        · omega
        · (rw [take_all ‹_›] at *; have := step_lt hord hs ‹_›; omega)
        · exact step_in hs
        · (rw [take_all ‹_›] at *; rw [← hF]; exact (longF_step k0 (by omega) ‹_›).symm)

theorem c_relate_Covers (r : Rl) (w : World) (hT : Tab w) : Calls Tryd.prog 39 #[.agg (relC r)] w (PureRow 27 2 (coversL r).length (prL (coversL r)) w) := by
  have hp := pts_bd r
  refine enter Tryd.func39 rfl Tryd.ntmps39 rfl ?_
  have hH := Hp.start w
  refine CW.seq ?_
  refine CW.region ?_
  refine RL.new rfl hH (f := fun b => (.pointer (some ⟨b, 0, none⟩))) (run_box (v := .agg _) rfl) ?_
  intro b3 w1 hH2
  refine RL.val rfl (run_assign (v := .slice none 0 0) rfl) ?_
  have hH4 := hH2.nilRow 27 2
  refine RL.nil ?_
  refine CW.seq ?_
  refine CW.seq ?_
  refine CW.region ?_
  refine RL.val rfl (run_ldRel Tryd.underlying25 rfl rfl rfl (hH4.blk (i := 1) rfl)) ?_
  refine RL.callP rfl hH4 (c_relate_Order _  _ (hT.hp hH4)) (run_call1 Tryd.call74 rfl) ?_
  intro w5 hH6
  refine RL.val rfl (run_not rfl) ?_
  refine RL.nil ?_
  refine CW.cond rfl (fun h9 => ?_) (fun h9 => ?_)
  · refine CW.seq ?_
    refine CW.region ?_
    refine RL.val rfl (run_assign (v := .slice none 0 0) rfl) ?_
    have hH10 := hH6.nilRow 27 2
    refine RL.nil ?_
    refine CW.ret ?_
    exact outR Tryd.results39 rfl hH10 (i := 0) rfl (by first | (rw [coversL, show orderB r = false from nt ‹_›]; rfl) | (rw [coversL, hord, hl, show i = pts r by omega]; rfl)) (by first | (rw [coversL, show orderB r = false from nt ‹_›]; rfl) | (rw [coversL, hord, hl, show i = pts r by omega]; rfl))
  · refine CW.skip ?_
    refine CW.seq ?_
    refine CW.region ?_
    refine RL.val rfl (run_assign (v := .slice none 0 0) rfl) ?_
    have hH11 := hH6.nilRow 27 2
    refine RL.nil ?_
    refine CW.seq ?_
    refine CW.seq ?_
    refine CW.region ?_
    refine RL.val rfl (run_ldRel Tryd.underlying25 rfl rfl rfl (hH11.blk (i := 2) rfl)) ?_
    refine RL.callP rfl hH11 (c_relate_points _  _) (run_call1 Tryd.call93 rfl) ?_
    intro w12 hH13
    refine RL.val rfl (run_move (v := I 0) rfl) ?_
    refine RL.nil ?_
    refine CW.block ?_
    have hord : orderB r = true := nf ‹_›
    refine CW.loop (G := (Int) × (List (Int × Int)) × (Value)) (fun (⟨i, l, v3⟩ : (Int) × (List (Int × Int)) × (Value)) s' w' => (Fr [3, 4, 5, 6, 8, 10, 16, 17, 18, 19, 20, 21, 22, 23, 24, 25, 26, 27, 28, 29, 30, 31, 32, 33, 34, 35, 36, 37, 38, 39, 40, 41, 42, 43, 44, 45, 46, 47, 48, 49, 50, 51] _ s') ∧ (Hp w w' (.row v3 27 2 (l.length) (prL l) :: _)) ∧ (s' 3 = v3) ∧ (s' 16 = I i) ∧ (0 ≤ i) ∧ (i ≤ pts r) ∧ (l = coversTo r i)) (fun (⟨i, l, v3⟩ : (Int) × (List (Int × Int)) × (Value)) => (pts r - i).toNat) ((0, [], (.slice none 0 0 : Value))) ⟨Fr.refl _ _, hH13, rfl, rfl, (by omega), (by omega), rfl⟩ ?_
    rintro ⟨i, l, v3⟩ sg14 w14 ⟨fr14, hH14, e3_14, e16_14, h0, h1, hl⟩
    have e1_14 : sg14 1 = .pointer (some ⟨_, _, none⟩) := (fr14 1 rfl).trans rfl
    have e2_14 := (fr14 2 rfl).trans (by conv => lhs; whnf)
    have e15_14 : sg14 15 = I _ := (fr14 15 rfl).trans rfl
    refine CW.seq ?_
    refine CW.region ?_
    refine RL.val rfl (run_lss e16_14 e15_14) ?_
    refine RL.nil ?_
    refine CW.seq ?_
    refine CW.condP rfl (fun h16 => ?_) (fun h16 => ?_)
    · refine CW.skip ?_
      refine CW.seq ?_
      refine CW.block ?_
      refine CW.seq ?_
      refine CW.region ?_
      refine RL.val rfl (run_move e16_14) ?_
      refine RL.val rfl (run_assign (v := I _) rfl) ?_
      refine RL.nil ?_
      refine CW.seq ?_
      refine CW.region ?_
      refine RL.val rfl (run_ldRel Tryd.underlying25 rfl rfl e1_14 (hH14.blk (i := 2) rfl)) ?_
      refine RL.val rfl (run_move (v := I _) rfl) ?_
      refine RL.callP rfl hH14 (c_relate_strict _ _ (by first | assumption | omega | (dsimp only at *; omega) | exact lst_at_bd (by assumption) (by assumption) | exact low_bd (lst_at (by assumption) (by assumption))) _) (run_call2 Tryd.call97 rfl rfl) ?_
      intro w17 hH18
      refine RL.val rfl (run_assign (v := U _) rfl) ?_
      refine RL.nil ?_
      refine CW.seq ?_
      refine CW.region ?_
      refine RL.val rfl (run_assign (v := U 0#64) rfl) ?_
      refine RL.nil ?_
      refine CW.seq ?_
      refine CW.seq ?_
      refine CW.region ?_
      refine RL.val rfl (run_move (v := U _) rfl) ?_
      refine RL.callR rfl hH18 (c_mask_List _  _ (hT.hp hH18)) (run_call1 Tryd.call84 rfl) ?_
      intro v21 w19 hH20
      refine RL.val rfl (run_lenSl (hH20.sl (i := 0) rfl) rfl Tryd.underlying36 rfl) ?_
      refine RL.val rfl (run_move (v := I 0) rfl) ?_
      refine RL.nil ?_
      refine CW.block ?_
      have hll := lst_len (strictR r i)
      refine CW.loop (G := (Int)) (fun (j : Int) s' w' => (Fr [6, 8, 25, 26, 27, 28, 29, 30, 31, 32, 33, 34] _ s') ∧ (Hp w w' _) ∧ (s' 6 = U (orAll (strictR r) ((lst (strictR r i)).take j.toNat))) ∧ (s' 25 = I j) ∧ (0 ≤ j) ∧ (j ≤ (lst (strictR r i)).length)) (fun (j : Int) => ((lst (strictR r i)).length - j).toNat) (0) ⟨Fr.refl _ _, hH20, (congrArg U (by simp [orAll])), rfl, (by omega), (by omega)⟩ ?_
      rintro j sg22 w22 ⟨fr22, hH22, e6_22, e25_22, j0, j1⟩
      have e1_22 := (fr22 1 rfl).trans e1_14
      have e2_22 := (fr22 2 rfl).trans e2_14
      have e3_22 := (fr22 3 rfl).trans e3_14
      have e4_22 : sg22 4 = I _ := (fr22 4 rfl).trans rfl
      have e5_22 : sg22 5 = U _ := (fr22 5 rfl).trans rfl
      have e15_22 := (fr22 15 rfl).trans e15_14
      have e16_22 := (fr22 16 rfl).trans e16_14
      have e17_22 : sg22 17 = B _ := (fr22 17 rfl).trans rfl
      have e18_22 : sg22 18 = I _ := (fr22 18 rfl).trans rfl
      have e19_22 : sg22 19 = .agg _ := (fr22 19 rfl).trans rfl
      have e20_22 : sg22 20 = I _ := (fr22 20 rfl).trans rfl
      have e21_22 : sg22 21 = U _ := (fr22 21 rfl).trans rfl
      have e22_22 : sg22 22 = U _ := (fr22 22 rfl).trans rfl
      have e23_22 := (fr22 23 rfl).trans (by conv => lhs; whnf)
      have e24_22 : sg22 24 = I _ := (fr22 24 rfl).trans rfl
      refine CW.seq ?_
      refine CW.region ?_
      refine RL.val rfl (run_lss e25_22 e24_22) ?_
      refine RL.nil ?_
      refine CW.seq ?_
      refine CW.condP rfl (fun h24 => ?_) (fun h24 => ?_)
      · refine CW.skip ?_
        refine CW.seq ?_
        refine CW.block ?_
        refine CW.seq ?_
        refine CW.region ?_
        refine RL.val rfl (run_indexAddrS (hH22.sl (i := 0) rfl) Tryd.underlying36 Tryd.sizeOf3 e23_22 e25_22 (by omega)) ?_
        refine RL.val rfl (run_ld Tryd.underlying3 rfl rfl ((hH22.sl (i := 0) rfl).cell _ _ (map_at (by omega)))) ?_
        refine RL.val rfl (run_assign (v := I _) rfl) ?_
        refine RL.nil ?_
        refine CW.region ?_
        refine RL.val rfl (run_move e6_22) ?_
        refine RL.val rfl (run_ldRel Tryd.underlying25 rfl rfl e1_22 (hH22.blk (i := 3) rfl)) ?_
        refine RL.val rfl (run_move (v := I _) rfl) ?_
        refine RL.callP rfl hH22 (c_relate_strict _ _ (by first | assumption | omega | (dsimp only at *; omega) | exact lst_at_bd (by assumption) (by assumption) | exact low_bd (lst_at (by assumption) (by assumption))) _) (run_call2 Tryd.call97 rfl rfl) ?_
        intro w25 hH26
        refine RL.val rfl (run_orU rfl rfl) ?_
        refine RL.val rfl (run_assign (v := U _) rfl) ?_
        refine RL.nil ?_
        refine CW.region ?_
        refine RL.val rfl (run_add e25_22 rfl (by first | omega | (have := lst_len (covS r i); omega))) ?_
        refine RL.val rfl (run_move (v := I _) rfl) ?_
        refine RL.nil ?_
        refine ⟨j + 1, ?_, (((((((((((fr22.u rfl).u rfl).u rfl).u rfl).u rfl).u rfl).u rfl).u rfl).u rfl).u rfl).u rfl).u rfl, hH26, (congrArg U (orAll_next j0 ‹_›)), (congrArg I (by first | rfl | omega)), ?_, ?_⟩
        · ((try dsimp only); omega)
        · omega
        · omega
      · refine CW.exit (id := 2) rfl ?_
        refine CW.seq ?_
        refine CW.region ?_
        refine RL.val rfl (run_move e5_22) ?_
        refine RL.val rfl (run_move e6_22) ?_
        refine RL.val rfl (run_andNotU rfl rfl) ?_
        refine RL.callR rfl hH22 (c_mask_List _  _ (hT.hp hH22)) (run_call1 Tryd.call84 rfl) ?_
        intro v29 w27 hH28
        refine RL.val rfl (run_lenSl (hH28.sl (i := 0) rfl) rfl Tryd.underlying36 rfl) ?_
        refine RL.val rfl (run_move (v := I 0) rfl) ?_
        refine RL.nil ?_
        refine CW.block ?_
        have hcs : strictR r i &&& ~~~orAll (strictR r) (List.take j.toNat (lst (strictR r i))) = covS r i := by rw [take_all ‹_›]; rfl
        simp only [hcs] at *
        refine CW.loop (G := (Int) × (List (Int × Int)) × (Value)) (fun (⟨m, l2, v3⟩ : (Int) × (List (Int × Int)) × (Value)) s' w' => (Fr [3, 10, 40, 41, 42, 43, 44, 45, 46, 47, 48, 49, 50] _ s') ∧ (Hp w w' (_ :: _ :: .row v3 27 2 (l2.length) (prL l2) :: _)) ∧ (s' 3 = v3) ∧ (s' 40 = I m) ∧ (0 ≤ m) ∧ (m ≤ (lst (covS r i)).length) ∧ (l2 = coversTo r i ++ ((lst (covS r i)).take m.toNat).map fun y => (i, y)) ∧ (l2.length ≤ 4096 + m.toNat)) (fun (⟨m, l2, v3⟩ : (Int) × (List (Int × Int)) × (Value)) => ((lst (covS r i)).length - m).toNat) ((0, l, (v3 : Value))) ⟨Fr.refl _ _, hH28, e3_22, rfl, (by omega), (by omega), (by simp [hl]), (by have := @cov_len r i; rw [← hl] at this; omega)⟩ ?_
        rintro ⟨m, l2, v3⟩ sg30 w30 ⟨fr30, hH30, e3_30, e40_30, m0, m1, h2, hlb⟩
        have e1_30 := (fr30 1 rfl).trans e1_22
        have e2_30 := (fr30 2 rfl).trans e2_22
        have e4_30 := (fr30 4 rfl).trans e4_22
        have e5_30 := (fr30 5 rfl).trans e5_22
        have e6_30 := (fr30 6 rfl).trans e6_22
        have e15_30 := (fr30 15 rfl).trans e15_22
        have e16_30 := (fr30 16 rfl).trans e16_22
        have e17_30 := (fr30 17 rfl).trans e17_22
        have e18_30 := (fr30 18 rfl).trans e18_22
        have e19_30 := (fr30 19 rfl).trans e19_22
        have e20_30 := (fr30 20 rfl).trans e20_22
        have e21_30 := (fr30 21 rfl).trans e21_22
        have e22_30 := (fr30 22 rfl).trans e22_22
        have e23_30 := (fr30 23 rfl).trans e23_22
        have e24_30 := (fr30 24 rfl).trans e24_22
        have e25_30 := (fr30 25 rfl).trans e25_22
        have e26_30 := (fr30 26 rfl).trans (by conv => lhs; whnf)
        have e35_30 : sg30 35 = U _ := (fr30 35 rfl).trans rfl
        have e36_30 : sg30 36 = U _ := (fr30 36 rfl).trans rfl
        have e37_30 : sg30 37 = U _ := (fr30 37 rfl).trans rfl
        have e38_30 := (fr30 38 rfl).trans (by conv => lhs; whnf)
        have e39_30 : sg30 39 = I _ := (fr30 39 rfl).trans rfl
        refine CW.seq ?_
        refine CW.region ?_
        refine RL.val rfl (run_lss e40_30 e39_30) ?_
        refine RL.nil ?_
        refine CW.seq ?_
        refine CW.condP rfl (fun h32 => ?_) (fun h32 => ?_)
        · refine CW.skip ?_
          refine CW.seq ?_
          refine CW.block ?_
          refine CW.seq ?_
          refine CW.region ?_
          refine RL.val rfl (run_indexAddrS (hH30.sl (i := 0) rfl) Tryd.underlying36 Tryd.sizeOf3 e38_30 e40_30 (by omega)) ?_
          refine RL.val rfl (run_ld Tryd.underlying3 rfl rfl ((hH30.sl (i := 0) rfl).cell _ _ (map_at (by omega)))) ?_
          refine RL.val rfl (run_assign (v := I _) rfl) ?_
          refine RL.nil ?_
          refine CW.region ?_
          refine RL.val rfl (run_move e3_30) ?_
          refine RL.val rfl (run_move e4_30) ?_
          refine RL.val rfl (run_move (v := I _) rfl) ?_
          refine RL.val rfl (run_bld (vs := [(0, I _), (1, I _)]) rfl (built_pair _ _)) ?_
          refine RL.new rfl hH30 (f := fun b => (.slice (some ⟨b, 0, none⟩) 1 1)) (run_mkL Tryd.underlying46 rfl rfl (sz := 2) (vs := [.agg #[_, _]]) rfl rfl (by decide) (by decide) rfl rfl) ?_
          intro b35 w33 hH34
          (try simp only [List.flatMap_cons, List.flatMap_nil, clI, clB, clS, clP, clL, clA, List.append_nil, List.cons_append, List.nil_append] at hH34)
          refine RL.app rfl hH34 (i := 3) rfl (hH34.slBlk (i := 0) (n := 1) (sz := 2) rfl rfl (by decide)) rfl rfl Tryd.underlying46 rfl rfl (size := 2) (bytes := 16) rfl rfl rfl (by decide) (by simp [Value.oneCell']) (by have := hlb; have := lst_len (covS r i); simp at *; omega) (by have := hlb; have := lst_len (covS r i); simp only [maxLen]; omega) ?_
          intro v36 w37 hH38
          simp only [List.set_cons_zero, List.set_cons_succ] at hH38
          refine RL.val rfl (run_assign (by conv => lhs; whnf)) ?_
          refine RL.nil ?_
          refine CW.region ?_
          refine RL.val rfl (run_add e40_30 rfl (by first | omega | (have := lst_len (covS r i); omega))) ?_
          refine RL.val rfl (run_move (v := I _) rfl) ?_
          refine RL.nil ?_
          refine ⟨(m + 1, l2 ++ [(i, (lst (covS r i)).getD m.toNat 0)], v36), ?_, ((((((((((((fr30.u rfl).u rfl).u rfl).u rfl).u rfl).u rfl).u rfl).u rfl).u rfl).u rfl).u rfl).u rfl).u rfl, (Hp.conv (hH38.sub (.cons _ (List.Sublist.refl _))) (by first | rfl | simp)), rfl, (congrArg I (by first | rfl | omega)), ?_, ?_, ?_, ?_⟩
          · ((try dsimp only); omega)
          · omega
          · omega
          · (rw [h2, take_next m0 ‹_›]; simp)
          · (simp; omega)
        · refine CW.exit (id := 4) rfl ?_
          refine CW.region ?_
          refine RL.val rfl (run_add e16_30 rfl (by first | omega | (have := lst_len (covS r i); omega))) ?_
          refine RL.val rfl (run_move (v := I _) rfl) ?_
          refine RL.nil ?_
          refine ⟨(i + 1, l2, v3), ?_, (((((((((((((((((((((((((fr14.u rfl).u rfl).u rfl).u rfl).u rfl).u rfl).u rfl).u rfl).u rfl).u rfl).u rfl).u rfl).t fr22 rfl)).u rfl).u rfl).u rfl).u rfl).u rfl).u rfl).u rfl).t fr30 rfl)).u rfl).u rfl).u rfl, (Hp.conv (hH30.sub (.cons _ (.cons _ (List.Sublist.refl _)))) (by first | rfl | simp)), e3_30, (congrArg I (by first | rfl | omega)), ?_, ?_, ?_⟩
          · ((try dsimp only); omega)
          · omega
          · omega
          · (rw [h2, take_all ‹_›]; exact cov_next h0)
    · refine CW.exit (id := 0) rfl ?_
      refine CW.seq ?_
      refine CW.region ?_
      refine RL.val rfl (run_move e3_14) ?_
      refine RL.val rfl (run_assign (by conv => lhs; whnf)) ?_
      refine RL.nil ?_
      refine CW.ret ?_
      exact outR Tryd.results39 rfl hH14 (i := 0) rfl (by first | (rw [coversL, show orderB r = false from nt ‹_›]; rfl) | (rw [coversL, hord, hl, show i = pts r by omega]; rfl)) (by first | (rw [coversL, show orderB r = false from nt ‹_›]; rfl) | (rw [coversL, hord, hl, show i = pts r by omega]; rfl))

theorem c_clo3 (w : World) : Calls Tryd.prog 24 #[.agg (relC (ofR 3 [(0, 1), (1, 2)]))] w (Pure (.agg (relC chain3)) w) := by
  have h := c_relate_Closure (ofR 3 [(0, 1), (1, 2)]) w
  rwa [show relC (cloR (ofR 3 [(0, 1), (1, 2)])) = relC chain3 from relC_congr (by decide +kernel)] at h
theorem c_clearancelaw03_alive  (w : World) (hT : Tab w) : Calls Tryd.prog 29 #[] w (Pure (B true) w) := by
  refine enter Tryd.func29 rfl Tryd.ntmps29 rfl ?_
  have hH := Hp.start w
  refine CW.seq ?_
  refine CW.region ?_
  refine RL.val rfl (run_assign (v := B false) rfl) ?_
  refine RL.nil ?_
  refine CW.seq ?_
  refine CW.region ?_
  refine RL.val rfl (run_bld (vs := [(0, I 0), (1, I 1)]) rfl (built_pair _ _)) ?_
  refine RL.val rfl (run_bld (vs := [(0, I 1), (1, I 2)]) rfl (built_pair _ _)) ?_
  refine RL.new rfl hH (f := fun b => (.slice (some ⟨b, 0, none⟩) 2 2)) (run_mkL Tryd.underlying46 rfl rfl (sz := 2) (vs := [.agg #[_, _], .agg #[_, _]]) rfl rfl (by decide) (by decide) rfl rfl) ?_
  intro b3 w1 hH2
  (try simp only [List.flatMap_cons, List.flatMap_nil, clI, clB, clS, clP, clL, clA, List.append_nil, List.cons_append, List.nil_append] at hH2)
  refine RL.callP rfl hH2 (c_relate_Of 3 _ [(0, 1), (1, 2)] _ (hH2.slBlk (i := 0) (n := 2) (sz := 2) rfl rfl (by decide))) (run_call2 Tryd.call43 (show _ = I 3 from rfl) rfl) ?_
  intro w4 hH5
  refine RL.callP rfl hH5 (c_clo3 _) (run_call1 Tryd.call24 rfl) ?_
  intro w6 hH7
  refine RL.new rfl hH7 (f := fun b => (.pointer (some ⟨b, 0, none⟩))) (run_alloc zero_rel) ?_
  intro b10 w8 hH9
  refine RL.set hH9 (i := 0) rfl (run_stRel rfl rfl rfl (hH9.blk (i := 0) rfl)) ?_
  intro w11 hH12
  simp only [List.set_cons_zero, List.set_cons_succ] at hH12
  refine RL.nil ?_
  refine CW.seq ?_
  refine CW.region ?_
  refine RL.val rfl (run_ldRel Tryd.underlying25 rfl rfl rfl (hH12.blk (i := 0) rfl)) ?_
  refine RL.callP rfl hH12 (c_relate_Long _  _ (hT.hp hH12)) (run_call1 Tryd.call41 rfl) ?_
  intro w13 hH14
  refine RL.val rfl (run_move (by conv => lhs; whnf)) ?_
  refine RL.val rfl (run_extract rfl (v := I _) rfl) ?_
  refine RL.val rfl (run_extract rfl (v := B _) rfl) ?_
  refine RL.val rfl (run_assign (v := I _) rfl) ?_
  refine RL.val rfl (run_assign (v := B _) rfl) ?_
  refine RL.nil ?_
  refine CW.seq ?_
  refine CW.region ?_
  refine RL.val rfl (run_ldRel Tryd.underlying25 rfl rfl rfl (hH14.blk (i := 0) rfl)) ?_
  refine RL.callP rfl hH14 (c_relate_Has _ _ _  _) (run_call3 Tryd.call35 rfl (show _ = I 0 from rfl) (show _ = I 2 from rfl)) ?_
  intro w16 hH17
  refine RL.val rfl (run_move (v := B _) rfl) ?_
  refine RL.gT rfl (bR (c := true) (by decide +kernel)) ?_
  refine RL.val rfl (run_ldRel Tryd.underlying25 rfl rfl rfl (hH17.blk (i := 0) rfl)) ?_
  refine RL.gT rfl (bR (c := true) (by decide +kernel)) ?_
  refine RL.callP rfl hH17 (c_relate_Has _ _ _  _) (run_call3 Tryd.call35 rfl (show _ = I 2 from rfl) (show _ = I 0 from rfl)) ?_
  intro w19 hH20
  refine RL.gT rfl (bR (c := true) (by decide +kernel)) ?_
  refine RL.val rfl (run_not (bR (c := false) (by decide +kernel))) ?_
  refine RL.val rfl (run_pickT (bR (c := true) (by decide +kernel)) (v := B _) rfl) ?_
  refine RL.val rfl (run_move (v := B _) rfl) ?_
  refine RL.gT rfl rfl ?_
  refine RL.val rfl (run_ldRel Tryd.underlying25 rfl rfl rfl (hH20.blk (i := 0) rfl)) ?_
  refine RL.gT rfl rfl ?_
  refine RL.callR rfl hH20 (c_relate_Covers _  _ (hT.hp hH20)) (run_call1 Tryd.call39 rfl) ?_
  intro v24 w22 hH23
  refine RL.gT rfl rfl ?_
  refine RL.val rfl (run_lenSl (hH23.sl (i := 0) rfl) rfl Tryd.underlying46 rfl) ?_
  refine RL.gT rfl rfl ?_
  refine RL.val rfl (run_eql rfl rfl) ?_
  refine RL.val rfl (run_pickT rfl (v := B _) rfl) ?_
  refine RL.val rfl (run_move (v := B _) rfl) ?_
  refine RL.gT rfl (bT (by decide +kernel)) ?_
  refine RL.val rfl (run_move (v := B _) rfl) ?_
  refine RL.val rfl (run_pickT (bT (by decide +kernel)) (v := B _) rfl) ?_
  refine RL.val rfl (run_move (v := B _) rfl) ?_
  refine RL.gT rfl (bR (c := true) (by decide +kernel)) ?_
  refine RL.val rfl (run_move (v := I _) rfl) ?_
  refine RL.gT rfl (bR (c := true) (by decide +kernel)) ?_
  refine RL.val rfl (run_eql rfl rfl) ?_
  refine RL.val rfl (run_pickT (bR (c := true) (by decide +kernel)) (v := B _) rfl) ?_
  refine RL.val rfl (run_assign (v := B _) rfl) ?_
  refine RL.nil ?_
  refine CW.ret ?_
  refine outP1 Tryd.results29 (congrArg B ?_) hH23.below
  rfl

theorem c_clearancelaw03_RelateReaches (r : Rl) (a b : Int) (w : World) (hT : Tab w) : Calls Tryd.prog 4 #[.agg (relC r), .agg #[I a, I b]] w (Pure (B true) w) := by
  refine enter Tryd.func4 rfl Tryd.ntmps4 rfl ?_
  have hH := Hp.start w
  refine CW.seq ?_
  refine CW.region ?_
  refine RL.new rfl hH (f := fun b => (.pointer (some ⟨b, 0, none⟩))) (run_box (v := .agg _) rfl) ?_
  intro b3 w1 hH2
  refine RL.new rfl hH2 (f := fun b => (.pointer (some ⟨b, 0, none⟩))) (run_box (v := .agg _) rfl) ?_
  intro b6 w4 hH5
  refine RL.val rfl (run_assign (v := B false) rfl) ?_
  refine RL.nil ?_
  refine CW.seq ?_
  refine CW.region ?_
  refine RL.val rfl (run_ldRel Tryd.underlying25 rfl rfl rfl (hH5.blk (i := 1) rfl)) ?_
  refine RL.callP rfl hH5 (c_relate_Closure _  _) (run_call1 Tryd.call24 rfl) ?_
  intro w7 hH8
  refine RL.new rfl hH8 (f := fun b => (.pointer (some ⟨b, 0, none⟩))) (run_alloc zero_rel) ?_
  intro b11 w9 hH10
  refine RL.set hH10 (i := 0) rfl (run_stRel rfl rfl rfl (hH10.blk (i := 0) rfl)) ?_
  intro w12 hH13
  simp only [List.set_cons_zero, List.set_cons_succ] at hH13
  refine RL.nil ?_
  refine CW.seq ?_
  refine CW.regionD (by kernel_rfl) hH13 ?_
  intro w14 hH15
  refine AN.take 0 rfl rfl (by kernel_rfl) (by kernel_rfl) (by kernel_rfl) (hH15.sub (List.Sublist.refl _)) (fun w hS => run_fieldAddr Tryd.underlying25 rfl (off := 0) rfl Tryd.sizeOf3 (by decide) rfl) ?_
  refine AN.take 1 rfl rfl (by kernel_rfl) (by kernel_rfl) (by kernel_rfl) (hH15.sub (List.Sublist.refl _)) (fun w hS => run_ld Tryd.underlying3 rfl rfl (hS.cell (i := 0) rfl (relC_N _))) ?_
  refine AN.take 2 rfl rfl (by kernel_rfl) (by kernel_rfl) (by kernel_rfl) (hH15.sub (List.Sublist.refl _)) (fun w hS => run_ldRel Tryd.underlying25 rfl rfl rfl (hS.blk (i := 2) rfl)) ?_
  refine AN.one 3 (by kernel_rfl) ?_
  refine AO.callP rfl gnone rfl hH15 (List.Sublist.refl _) (c_clearanceref03_Points _  _) (run_call1 Tryd.call25 rfl) ?_
  intro w16 hH17
  refine AN.take 4 rfl rfl (by kernel_rfl) (by kernel_rfl) (by kernel_rfl) (hH17.sub (List.Sublist.refl _)) (fun w hS => run_eql rfl rfl) ?_
  refine AN.take 5 rfl rfl (by kernel_rfl) (by kernel_rfl) (by kernel_rfl) (hH17.sub (List.Sublist.refl _)) (fun w hS => run_move (v := B _) rfl) ?_
  refine AN.takeG 6 rfl rfl (bT (rfl)) rfl (by kernel_rfl) (by kernel_rfl) (by kernel_rfl) (hH17.sub (List.Sublist.refl _)) (fun w hS => run_ldRel Tryd.underlying25 rfl rfl rfl (hS.blk (i := 0) rfl)) ?_
  refine AN.takeG 7 rfl rfl (bT (rfl)) rfl (by kernel_rfl) (by kernel_rfl) (by kernel_rfl) (hH17.sub (List.Sublist.refl _)) (fun w hS => run_fieldAddr Tryd.underlying27 rfl (off := 0) rfl Tryd.sizeOf3 (by decide) rfl) ?_
  refine AN.takeG 8 rfl rfl (bT (rfl)) rfl (by kernel_rfl) (by kernel_rfl) (by kernel_rfl) (hH17.sub (List.Sublist.refl _)) (fun w hS => run_ld Tryd.underlying3 rfl rfl (hS.cell (i := 1) rfl (v := I _) rfl)) ?_
  refine AN.takeG 9 rfl rfl (bT (rfl)) rfl (by kernel_rfl) (by kernel_rfl) (by kernel_rfl) (hH17.sub (List.Sublist.refl _)) (fun w hS => run_fieldAddr Tryd.underlying27 rfl (off := 1) rfl Tryd.sizeOf3 (by decide) rfl) ?_
  refine AN.takeG 10 rfl rfl (bT (rfl)) rfl (by kernel_rfl) (by kernel_rfl) (by kernel_rfl) (hH17.sub (List.Sublist.refl _)) (fun w hS => run_ld Tryd.underlying3 rfl rfl (hS.cell (i := 1) rfl (v := I _) rfl)) ?_
  refine AN.takeG 12 rfl rfl (bT (rfl)) rfl (by kernel_rfl) (by kernel_rfl) (by kernel_rfl) (hH17.sub (List.Sublist.refl _)) (fun w hS => run_ldRel Tryd.underlying25 rfl rfl rfl (hS.blk (i := 2) rfl)) ?_
  refine AN.takeG 13 rfl rfl (bT (rfl)) rfl (by kernel_rfl) (by kernel_rfl) (by kernel_rfl) (hH17.sub (List.Sublist.refl _)) (fun w hS => run_fieldAddr Tryd.underlying27 rfl (off := 0) rfl Tryd.sizeOf3 (by decide) rfl) ?_
  refine AN.takeG 14 rfl rfl (bT (rfl)) rfl (by kernel_rfl) (by kernel_rfl) (by kernel_rfl) (hH17.sub (List.Sublist.refl _)) (fun w hS => run_ld Tryd.underlying3 rfl rfl (hS.cell (i := 1) rfl (v := I _) rfl)) ?_
  refine AN.takeG 16 rfl rfl (bT (rfl)) rfl (by kernel_rfl) (by kernel_rfl) (by kernel_rfl) (hH17.sub (List.Sublist.refl _)) (fun w hS => run_fieldAddr Tryd.underlying27 rfl (off := 1) rfl Tryd.sizeOf3 (by decide) rfl) ?_
  refine AN.takeG 17 rfl rfl (bT (rfl)) rfl (by kernel_rfl) (by kernel_rfl) (by kernel_rfl) (hH17.sub (List.Sublist.refl _)) (fun w hS => run_ld Tryd.underlying3 rfl rfl (hS.cell (i := 1) rfl (v := I _) rfl)) ?_
  refine AN.one 11 (by kernel_rfl) ?_
  refine AO.callP rfl (gsome rfl (bT (rfl))) rfl hH17 (List.Sublist.refl _) (c_clearanceref03_Has _ _ _  _) (run_call3 Tryd.call26 rfl rfl rfl) ?_
  intro w19 hH20
  refine AN.one 15 (by kernel_rfl) ?_
  refine AO.callR rfl (gsome rfl (bT (rfl))) rfl hH20 (List.Sublist.refl _) (c_clearanceref03_Reach _ _  _) (run_call2 Tryd.call28 rfl rfl) ?_
  intro v24 w22 hH23
  refine AN.one 18 (by kernel_rfl) ?_
  refine AO.callP rfl (gsome rfl (bT (rfl))) rfl hH23 (.cons _ (List.Sublist.refl _)) (c_clearanceref03_In _ _ _  _ (hH23.sl (i := 0) rfl)) (run_call2 Tryd.call27 rfl rfl) ?_
  intro w25 hH26
  refine AN.takeG 19 rfl rfl (bT (rfl)) rfl (by kernel_rfl) (by kernel_rfl) (by kernel_rfl) (hH26.sub (.cons _ (List.Sublist.refl _))) (fun w hS => run_eqlB Tryd.underlying4 rfl rfl) ?_
  refine AN.take 20 rfl rfl (by kernel_rfl) (by kernel_rfl) (by kernel_rfl) (hH26.sub (.cons _ (List.Sublist.refl _))) (fun w hS => run_pickT (bT (rfl)) (v := B _) rfl) ?_
  refine AN.take 21 rfl rfl (by kernel_rfl) (by kernel_rfl) (by kernel_rfl) (hH26.sub (.cons _ (List.Sublist.refl _))) (fun w hS => run_move (v := B _) rfl) ?_
  refine AN.one 22 (by kernel_rfl) ?_
  refine AO.callP rfl (gsome rfl (bR (c := true) (reach_has r a b))) rfl hH26 (.cons _ (List.Sublist.refl _)) (c_clearancelaw03_alive   _ (hT.hp hH26)) (run_call0 Tryd.call29) ?_
  intro w29 hH30
  refine AN.take 23 rfl rfl (by kernel_rfl) (by kernel_rfl) (by kernel_rfl) (hH30.sub (.cons _ (List.Sublist.refl _))) (fun w hS => run_pickT (bR (c := true) (reach_has r a b)) (v := B _) rfl) ?_
  refine AN.take 24 rfl rfl (by kernel_rfl) (by kernel_rfl) (by kernel_rfl) (hH30.sub (.cons _ (List.Sublist.refl _))) (fun w hS => run_assign (v := B _) rfl) ?_
  refine AN.done (by kernel_rfl) ?_
  refine CW.ret ?_
  refine outP1 Tryd.results4 (congrArg B ?_) hH30.below
  rfl

theorem c_clearancelaw03_RelateImages (r : Rl) (s : BitVec 64) (k : Int) (w : World) (hT : Tab w) : Calls Tryd.prog 5 #[.agg (relC r), U s, I k] w (Pure (B true) w) := by
  have hl := lst_len s
  refine enter Tryd.func5 rfl Tryd.ntmps5 rfl ?_
  have hH := Hp.start w
  refine CW.seq ?_
  refine CW.region ?_
  refine RL.new rfl hH (f := fun b => (.pointer (some ⟨b, 0, none⟩))) (run_box (v := .agg _) rfl) ?_
  intro b3 w1 hH2
  refine RL.val rfl (run_assign (v := B false) rfl) ?_
  refine RL.nil ?_
  refine CW.seq ?_
  refine CW.region ?_
  refine RL.val rfl (run_assign (v := B false) rfl) ?_
  refine RL.val rfl (run_assign (v := B false) rfl) ?_
  refine RL.nil ?_
  refine CW.seq ?_
  refine CW.region ?_
  refine RL.val rfl (run_move (v := U _) rfl) ?_
  refine RL.callR rfl hH2 (c_clearanceref01_List _  _) (run_call1 Tryd.call30 rfl) ?_
  intro v6 w4 hH5
  refine RL.val rfl (run_assign (by conv => lhs; whnf)) ?_
  refine RL.nil ?_
  refine CW.seq ?_
  refine CW.seq ?_
  refine CW.region ?_
  refine RL.val rfl (run_assign (v := I 0) rfl) ?_
  refine RL.nil ?_
  refine CW.block ?_
  refine CW.loop (G := (Int)) (fun (a : Int) s' w' => (Fr [7, 8, 10, 13, 14, 15, 16, 17, 18, 19, 20, 21, 22, 23, 24, 25, 26, 27, 28, 29, 30, 31, 32, 33, 34, 35, 36, 37, 38] _ s') ∧ (Hp w w' _) ∧ (s' 7 = B (anyTo (fun i => hasR r i k) (lst s) a)) ∧ (s' 8 = B (anyTo (fun i => hasR r k i) (lst s) a)) ∧ (s' 10 = I a) ∧ (0 ≤ a) ∧ (a ≤ (lst s).length)) (fun (a : Int) => ((lst s).length - a).toNat) (0) ⟨Fr.refl _ _, hH5, rfl, rfl, rfl, (by omega), (by omega)⟩ ?_
  rintro a sg7 w7 ⟨fr7, hH7, e7_7, e8_7, e10_7, a0, a1⟩
  have e1_7 : sg7 1 = U _ := (fr7 1 rfl).trans rfl
  have e2_7 : sg7 2 = I _ := (fr7 2 rfl).trans rfl
  have e3_7 : sg7 3 = .pointer (some ⟨_, _, none⟩) := (fr7 3 rfl).trans rfl
  have e6_7 : sg7 6 = B _ := (fr7 6 rfl).trans rfl
  have e9_7 := (fr7 9 rfl).trans (by conv => lhs; whnf)
  refine CW.seq ?_
  refine CW.seq ?_
  refine CW.region ?_
  refine RL.val rfl (run_move e10_7) ?_
  refine RL.val rfl (run_move e9_7) ?_
  refine RL.val rfl (run_lenSl (hH7.sl (i := 0) rfl) rfl Tryd.underlying36 rfl) ?_
  refine RL.val rfl (run_lss rfl rfl) ?_
  refine RL.nil ?_
  refine CW.condP rfl (fun h11 => ?_) (fun h11 => ?_)
  · refine CW.skip ?_
    refine CW.seq ?_
    refine CW.block ?_
    refine CW.seq ?_
    refine CW.regionD (by kernel_rfl) hH7 ?_
    intro w12 hH13
    refine AN.take 0 rfl rfl (by kernel_rfl) (by kernel_rfl) (by kernel_rfl) (hH13.sub (List.Sublist.refl _)) (fun w hS => run_move e7_7) ?_
    refine AN.take 1 rfl rfl (by kernel_rfl) (by kernel_rfl) (by kernel_rfl) (hH13.sub (List.Sublist.refl _)) (fun w hS => run_move (v := B _) rfl) ?_
    refine AN.split (dj := 20) rfl (fun h14 => ?_) (fun h14 => ?_)
    · refine AN.skipG 2 rfl rfl (bR (c := true) h14) rfl rfl (by kernel_rfl) (by kernel_rfl) (by kernel_rfl) (hH13.sub (List.Sublist.refl _)) ?_
      refine AN.skipG 3 rfl rfl (bR (c := true) h14) rfl rfl (by kernel_rfl) (by kernel_rfl) (by kernel_rfl) (hH13.sub (List.Sublist.refl _)) ?_
      refine AN.skipG 4 rfl rfl (bR (c := true) h14) rfl rfl (by kernel_rfl) (by kernel_rfl) (by kernel_rfl) (hH13.sub (List.Sublist.refl _)) ?_
      refine AN.skipG 5 rfl rfl (bR (c := true) h14) rfl rfl (by kernel_rfl) (by kernel_rfl) (by kernel_rfl) (hH13.sub (List.Sublist.refl _)) ?_
      refine AN.skipG 6 rfl rfl (bR (c := true) h14) rfl rfl (by kernel_rfl) (by kernel_rfl) (by kernel_rfl) (hH13.sub (List.Sublist.refl _)) ?_
      refine AN.skipG 7 rfl rfl (bR (c := true) h14) rfl rfl (by kernel_rfl) (by kernel_rfl) (by kernel_rfl) (hH13.sub (List.Sublist.refl _)) ?_
      refine AN.skipG 8 rfl rfl (bR (c := true) h14) rfl rfl (by kernel_rfl) (by kernel_rfl) (by kernel_rfl) (hH13.sub (List.Sublist.refl _)) ?_
      refine AN.take 9 rfl rfl (by kernel_rfl) (by kernel_rfl) (by kernel_rfl) (hH13.sub (List.Sublist.refl _)) (fun w hS => run_pickT (bR (c := true) h14) (v := B true) rfl) ?_
      refine AN.take 10 rfl rfl (by kernel_rfl) (by kernel_rfl) (by kernel_rfl) (hH13.sub (List.Sublist.refl _)) (fun w hS => run_assign (v := B _) rfl) ?_
      refine AN.done (by kernel_rfl) ?_
      refine CW.regionD (by kernel_rfl) hH13 ?_
      intro w15 hH16
      refine AN.take 0 rfl rfl (by kernel_rfl) (by kernel_rfl) (by kernel_rfl) (hH16.sub (List.Sublist.refl _)) (fun w hS => run_move e8_7) ?_
      refine AN.take 1 rfl rfl (by kernel_rfl) (by kernel_rfl) (by kernel_rfl) (hH16.sub (List.Sublist.refl _)) (fun w hS => run_move (v := B _) rfl) ?_
      refine AN.split (dj := 30) rfl (fun h17 => ?_) (fun h17 => ?_)
      · refine AN.skipG 2 rfl rfl (bR (c := true) h17) rfl rfl (by kernel_rfl) (by kernel_rfl) (by kernel_rfl) (hH16.sub (List.Sublist.refl _)) ?_
        refine AN.skipG 3 rfl rfl (bR (c := true) h17) rfl rfl (by kernel_rfl) (by kernel_rfl) (by kernel_rfl) (hH16.sub (List.Sublist.refl _)) ?_
        refine AN.skipG 4 rfl rfl (bR (c := true) h17) rfl rfl (by kernel_rfl) (by kernel_rfl) (by kernel_rfl) (hH16.sub (List.Sublist.refl _)) ?_
        refine AN.skipG 5 rfl rfl (bR (c := true) h17) rfl rfl (by kernel_rfl) (by kernel_rfl) (by kernel_rfl) (hH16.sub (List.Sublist.refl _)) ?_
        refine AN.skipG 6 rfl rfl (bR (c := true) h17) rfl rfl (by kernel_rfl) (by kernel_rfl) (by kernel_rfl) (hH16.sub (List.Sublist.refl _)) ?_
        refine AN.skipG 7 rfl rfl (bR (c := true) h17) rfl rfl (by kernel_rfl) (by kernel_rfl) (by kernel_rfl) (hH16.sub (List.Sublist.refl _)) ?_
        refine AN.skipG 8 rfl rfl (bR (c := true) h17) rfl rfl (by kernel_rfl) (by kernel_rfl) (by kernel_rfl) (hH16.sub (List.Sublist.refl _)) ?_
        refine AN.take 9 rfl rfl (by kernel_rfl) (by kernel_rfl) (by kernel_rfl) (hH16.sub (List.Sublist.refl _)) (fun w hS => run_pickT (bR (c := true) h17) (v := B true) rfl) ?_
        refine AN.take 10 rfl rfl (by kernel_rfl) (by kernel_rfl) (by kernel_rfl) (hH16.sub (List.Sublist.refl _)) (fun w hS => run_assign (v := B _) rfl) ?_
        refine AN.done (by kernel_rfl) ?_
        refine CW.region ?_
        refine RL.val rfl (run_move e10_7) ?_
        refine RL.val rfl (run_add rfl rfl (by omega)) ?_
        refine RL.val rfl (run_assign (v := I _) rfl) ?_
        refine RL.nil ?_
        refine ⟨a + 1, ?_, ((((((((((((((((((((((((((((fr7.u rfl).u rfl).u rfl).u rfl).u rfl).u rfl).u rfl).u rfl).u rfl).u rfl).u rfl).u rfl).u rfl).u rfl).u rfl).u rfl).u rfl).u rfl).u rfl).u rfl).u rfl).u rfl).u rfl).u rfl).u rfl).u rfl).u rfl).u rfl).u rfl, hH16, (congrArg B (by first | exact any_skip (p := fun i => hasR r i k) a0 ‹_› ‹_› | exact any_go (p := fun i => hasR r i k) a0 ‹_› ‹_›)), (congrArg B (by first | exact any_skip (p := fun i => hasR r k i) a0 ‹_› ‹_› | exact any_go (p := fun i => hasR r k i) a0 ‹_› ‹_›)), (congrArg I (by first | rfl | omega)), ?_, ?_⟩
        · ((try dsimp only); omega)
        · omega
        · omega
      · refine AN.takeG 2 rfl rfl (bR (c := false) h17) rfl (by kernel_rfl) (by kernel_rfl) (by kernel_rfl) (hH16.sub (List.Sublist.refl _)) (fun w hS => run_ldRel Tryd.underlying25 rfl rfl e3_7 (hS.blk (i := 1) rfl)) ?_
        refine AN.takeG 3 rfl rfl (bR (c := false) h17) rfl (by kernel_rfl) (by kernel_rfl) (by kernel_rfl) (hH16.sub (List.Sublist.refl _)) (fun w hS => run_move e2_7) ?_
        refine AN.takeG 4 rfl rfl (bR (c := false) h17) rfl (by kernel_rfl) (by kernel_rfl) (by kernel_rfl) (hH16.sub (List.Sublist.refl _)) (fun w hS => run_move e9_7) ?_
        refine AN.takeG 5 rfl rfl (bR (c := false) h17) rfl (by kernel_rfl) (by kernel_rfl) (by kernel_rfl) (hH16.sub (List.Sublist.refl _)) (fun w hS => run_move e10_7) ?_
        refine AN.takeG 6 rfl rfl (bR (c := false) h17) rfl (by kernel_rfl) (by kernel_rfl) (by kernel_rfl) (hH16.sub (List.Sublist.refl _)) (fun w hS => run_indexAddrS (hS.sl (i := 0) rfl) Tryd.underlying36 Tryd.sizeOf3 rfl rfl (by omega)) ?_
        refine AN.takeG 7 rfl rfl (bR (c := false) h17) rfl (by kernel_rfl) (by kernel_rfl) (by kernel_rfl) (hH16.sub (List.Sublist.refl _)) (fun w hS => run_ld Tryd.underlying3 rfl rfl ((hS.sl (i := 0) rfl).cell _ _ (map_at (by omega)))) ?_
        refine AN.one 8 (by kernel_rfl) ?_
        refine AO.callP rfl (gsome rfl (bR (c := false) h17)) rfl hH16 (List.Sublist.refl _) (c_clearanceref03_Has _ _ _  _) (run_call3 Tryd.call26 rfl rfl rfl) ?_
        intro w18 hH19
        refine AN.take 9 rfl rfl (by kernel_rfl) (by kernel_rfl) (by kernel_rfl) (hH19.sub (List.Sublist.refl _)) (fun w hS => run_pickF (bR (c := false) h17) (v := B _) rfl) ?_
        refine AN.take 10 rfl rfl (by kernel_rfl) (by kernel_rfl) (by kernel_rfl) (hH19.sub (List.Sublist.refl _)) (fun w hS => run_assign (v := B _) rfl) ?_
        refine AN.done (by kernel_rfl) ?_
        refine CW.region ?_
        refine RL.val rfl (run_move e10_7) ?_
        refine RL.val rfl (run_add rfl rfl (by omega)) ?_
        refine RL.val rfl (run_assign (v := I _) rfl) ?_
        refine RL.nil ?_
        refine ⟨a + 1, ?_, ((((((((((((((((((((((((((((fr7.u rfl).u rfl).u rfl).u rfl).u rfl).u rfl).u rfl).u rfl).u rfl).u rfl).u rfl).u rfl).u rfl).u rfl).u rfl).u rfl).u rfl).u rfl).u rfl).u rfl).u rfl).u rfl).u rfl).u rfl).u rfl).u rfl).u rfl).u rfl).u rfl, hH19, (congrArg B (by first | exact any_skip (p := fun i => hasR r i k) a0 ‹_› ‹_› | exact any_go (p := fun i => hasR r i k) a0 ‹_› ‹_›)), (congrArg B (by first | exact any_skip (p := fun i => hasR r k i) a0 ‹_› ‹_› | exact any_go (p := fun i => hasR r k i) a0 ‹_› ‹_›)), (congrArg I (by first | rfl | omega)), ?_, ?_⟩
        · ((try dsimp only); omega)
        · omega
        · omega
    · refine AN.takeG 2 rfl rfl (bR (c := false) h14) rfl (by kernel_rfl) (by kernel_rfl) (by kernel_rfl) (hH13.sub (List.Sublist.refl _)) (fun w hS => run_ldRel Tryd.underlying25 rfl rfl e3_7 (hS.blk (i := 1) rfl)) ?_
      refine AN.takeG 3 rfl rfl (bR (c := false) h14) rfl (by kernel_rfl) (by kernel_rfl) (by kernel_rfl) (hH13.sub (List.Sublist.refl _)) (fun w hS => run_move e9_7) ?_
      refine AN.takeG 4 rfl rfl (bR (c := false) h14) rfl (by kernel_rfl) (by kernel_rfl) (by kernel_rfl) (hH13.sub (List.Sublist.refl _)) (fun w hS => run_move e10_7) ?_
      refine AN.takeG 5 rfl rfl (bR (c := false) h14) rfl (by kernel_rfl) (by kernel_rfl) (by kernel_rfl) (hH13.sub (List.Sublist.refl _)) (fun w hS => run_indexAddrS (hS.sl (i := 0) rfl) Tryd.underlying36 Tryd.sizeOf3 rfl rfl (by omega)) ?_
      refine AN.takeG 6 rfl rfl (bR (c := false) h14) rfl (by kernel_rfl) (by kernel_rfl) (by kernel_rfl) (hH13.sub (List.Sublist.refl _)) (fun w hS => run_ld Tryd.underlying3 rfl rfl ((hS.sl (i := 0) rfl).cell _ _ (map_at (by omega)))) ?_
      refine AN.takeG 7 rfl rfl (bR (c := false) h14) rfl (by kernel_rfl) (by kernel_rfl) (by kernel_rfl) (hH13.sub (List.Sublist.refl _)) (fun w hS => run_move e2_7) ?_
      refine AN.one 8 (by kernel_rfl) ?_
      refine AO.callP rfl (gsome rfl (bR (c := false) h14)) rfl hH13 (List.Sublist.refl _) (c_clearanceref03_Has _ _ _  _) (run_call3 Tryd.call26 rfl rfl rfl) ?_
      intro w21 hH22
      refine AN.take 9 rfl rfl (by kernel_rfl) (by kernel_rfl) (by kernel_rfl) (hH22.sub (List.Sublist.refl _)) (fun w hS => run_pickF (bR (c := false) h14) (v := B _) rfl) ?_
      refine AN.take 10 rfl rfl (by kernel_rfl) (by kernel_rfl) (by kernel_rfl) (hH22.sub (List.Sublist.refl _)) (fun w hS => run_assign (v := B _) rfl) ?_
      refine AN.done (by kernel_rfl) ?_
      refine CW.regionD (by kernel_rfl) hH22 ?_
      intro w24 hH25
      refine AN.take 0 rfl rfl (by kernel_rfl) (by kernel_rfl) (by kernel_rfl) (hH25.sub (List.Sublist.refl _)) (fun w hS => run_move e8_7) ?_
      refine AN.take 1 rfl rfl (by kernel_rfl) (by kernel_rfl) (by kernel_rfl) (hH25.sub (List.Sublist.refl _)) (fun w hS => run_move (v := B _) rfl) ?_
      refine AN.split (dj := 30) rfl (fun h26 => ?_) (fun h26 => ?_)
      · refine AN.skipG 2 rfl rfl (bR (c := true) h26) rfl rfl (by kernel_rfl) (by kernel_rfl) (by kernel_rfl) (hH25.sub (List.Sublist.refl _)) ?_
        refine AN.skipG 3 rfl rfl (bR (c := true) h26) rfl rfl (by kernel_rfl) (by kernel_rfl) (by kernel_rfl) (hH25.sub (List.Sublist.refl _)) ?_
        refine AN.skipG 4 rfl rfl (bR (c := true) h26) rfl rfl (by kernel_rfl) (by kernel_rfl) (by kernel_rfl) (hH25.sub (List.Sublist.refl _)) ?_
        refine AN.skipG 5 rfl rfl (bR (c := true) h26) rfl rfl (by kernel_rfl) (by kernel_rfl) (by kernel_rfl) (hH25.sub (List.Sublist.refl _)) ?_
        refine AN.skipG 6 rfl rfl (bR (c := true) h26) rfl rfl (by kernel_rfl) (by kernel_rfl) (by kernel_rfl) (hH25.sub (List.Sublist.refl _)) ?_
        refine AN.skipG 7 rfl rfl (bR (c := true) h26) rfl rfl (by kernel_rfl) (by kernel_rfl) (by kernel_rfl) (hH25.sub (List.Sublist.refl _)) ?_
        refine AN.skipG 8 rfl rfl (bR (c := true) h26) rfl rfl (by kernel_rfl) (by kernel_rfl) (by kernel_rfl) (hH25.sub (List.Sublist.refl _)) ?_
        refine AN.take 9 rfl rfl (by kernel_rfl) (by kernel_rfl) (by kernel_rfl) (hH25.sub (List.Sublist.refl _)) (fun w hS => run_pickT (bR (c := true) h26) (v := B true) rfl) ?_
        refine AN.take 10 rfl rfl (by kernel_rfl) (by kernel_rfl) (by kernel_rfl) (hH25.sub (List.Sublist.refl _)) (fun w hS => run_assign (v := B _) rfl) ?_
        refine AN.done (by kernel_rfl) ?_
        refine CW.region ?_
        refine RL.val rfl (run_move e10_7) ?_
        refine RL.val rfl (run_add rfl rfl (by omega)) ?_
        refine RL.val rfl (run_assign (v := I _) rfl) ?_
        refine RL.nil ?_
        refine ⟨a + 1, ?_, ((((((((((((((((((((((((((((fr7.u rfl).u rfl).u rfl).u rfl).u rfl).u rfl).u rfl).u rfl).u rfl).u rfl).u rfl).u rfl).u rfl).u rfl).u rfl).u rfl).u rfl).u rfl).u rfl).u rfl).u rfl).u rfl).u rfl).u rfl).u rfl).u rfl).u rfl).u rfl).u rfl, hH25, (congrArg B (by first | exact any_skip (p := fun i => hasR r i k) a0 ‹_› ‹_› | exact any_go (p := fun i => hasR r i k) a0 ‹_› ‹_›)), (congrArg B (by first | exact any_skip (p := fun i => hasR r k i) a0 ‹_› ‹_› | exact any_go (p := fun i => hasR r k i) a0 ‹_› ‹_›)), (congrArg I (by first | rfl | omega)), ?_, ?_⟩
        · ((try dsimp only); omega)
        · omega
        · omega
      · refine AN.takeG 2 rfl rfl (bR (c := false) h26) rfl (by kernel_rfl) (by kernel_rfl) (by kernel_rfl) (hH25.sub (List.Sublist.refl _)) (fun w hS => run_ldRel Tryd.underlying25 rfl rfl e3_7 (hS.blk (i := 1) rfl)) ?_
        refine AN.takeG 3 rfl rfl (bR (c := false) h26) rfl (by kernel_rfl) (by kernel_rfl) (by kernel_rfl) (hH25.sub (List.Sublist.refl _)) (fun w hS => run_move e2_7) ?_
        refine AN.takeG 4 rfl rfl (bR (c := false) h26) rfl (by kernel_rfl) (by kernel_rfl) (by kernel_rfl) (hH25.sub (List.Sublist.refl _)) (fun w hS => run_move e9_7) ?_
        refine AN.takeG 5 rfl rfl (bR (c := false) h26) rfl (by kernel_rfl) (by kernel_rfl) (by kernel_rfl) (hH25.sub (List.Sublist.refl _)) (fun w hS => run_move e10_7) ?_
        refine AN.takeG 6 rfl rfl (bR (c := false) h26) rfl (by kernel_rfl) (by kernel_rfl) (by kernel_rfl) (hH25.sub (List.Sublist.refl _)) (fun w hS => run_indexAddrS (hS.sl (i := 0) rfl) Tryd.underlying36 Tryd.sizeOf3 rfl rfl (by omega)) ?_
        refine AN.takeG 7 rfl rfl (bR (c := false) h26) rfl (by kernel_rfl) (by kernel_rfl) (by kernel_rfl) (hH25.sub (List.Sublist.refl _)) (fun w hS => run_ld Tryd.underlying3 rfl rfl ((hS.sl (i := 0) rfl).cell _ _ (map_at (by omega)))) ?_
        refine AN.one 8 (by kernel_rfl) ?_
        refine AO.callP rfl (gsome rfl (bR (c := false) h26)) rfl hH25 (List.Sublist.refl _) (c_clearanceref03_Has _ _ _  _) (run_call3 Tryd.call26 rfl rfl rfl) ?_
        intro w27 hH28
        refine AN.take 9 rfl rfl (by kernel_rfl) (by kernel_rfl) (by kernel_rfl) (hH28.sub (List.Sublist.refl _)) (fun w hS => run_pickF (bR (c := false) h26) (v := B _) rfl) ?_
        refine AN.take 10 rfl rfl (by kernel_rfl) (by kernel_rfl) (by kernel_rfl) (hH28.sub (List.Sublist.refl _)) (fun w hS => run_assign (v := B _) rfl) ?_
        refine AN.done (by kernel_rfl) ?_
        refine CW.region ?_
        refine RL.val rfl (run_move e10_7) ?_
        refine RL.val rfl (run_add rfl rfl (by omega)) ?_
        refine RL.val rfl (run_assign (v := I _) rfl) ?_
        refine RL.nil ?_
        refine ⟨a + 1, ?_, ((((((((((((((((((((((((((((fr7.u rfl).u rfl).u rfl).u rfl).u rfl).u rfl).u rfl).u rfl).u rfl).u rfl).u rfl).u rfl).u rfl).u rfl).u rfl).u rfl).u rfl).u rfl).u rfl).u rfl).u rfl).u rfl).u rfl).u rfl).u rfl).u rfl).u rfl).u rfl).u rfl, hH28, (congrArg B (by first | exact any_skip (p := fun i => hasR r i k) a0 ‹_› ‹_› | exact any_go (p := fun i => hasR r i k) a0 ‹_› ‹_›)), (congrArg B (by first | exact any_skip (p := fun i => hasR r k i) a0 ‹_› ‹_› | exact any_go (p := fun i => hasR r k i) a0 ‹_› ‹_›)), (congrArg I (by first | rfl | omega)), ?_, ?_⟩
        · ((try dsimp only); omega)
        · omega
        · omega
  · refine CW.exit (id := 0) rfl ?_
    refine CW.seq ?_
    refine CW.region ?_
    refine RL.val rfl (run_ldRel Tryd.underlying25 rfl rfl e3_7 (hH7.blk (i := 1) rfl)) ?_
    refine RL.val rfl (run_move e1_7) ?_
    refine RL.callP rfl hH7 (c_relate_Up _ _  _ (hT.hp hH7)) (run_call2 Tryd.call32 rfl rfl) ?_
    intro w30 hH31
    refine RL.val rfl (run_move e2_7) ?_
    refine RL.callP rfl hH31 (c_clearanceref01_Has _ _  _) (run_call2 Tryd.call31 rfl rfl) ?_
    intro w32 hH33
    refine RL.val rfl (run_move e7_7) ?_
    refine RL.val rfl (run_eqlB Tryd.underlying4 rfl rfl) ?_
    refine RL.val rfl (run_move (v := B _) rfl) ?_
    refine RL.gT rfl (bR (c := true) (by rw [any_end ‹_›]; exact up_any r s k)) ?_
    refine RL.val rfl (run_ldRel Tryd.underlying25 rfl rfl e3_7 (hH33.blk (i := 1) rfl)) ?_
    refine RL.gT rfl (bR (c := true) (by rw [any_end ‹_›]; exact up_any r s k)) ?_
    refine RL.val rfl (run_move e1_7) ?_
    refine RL.gT rfl (bR (c := true) (by rw [any_end ‹_›]; exact up_any r s k)) ?_
    refine RL.callP rfl hH33 (c_relate_Down _ _  _) (run_call2 Tryd.call33 rfl rfl) ?_
    intro w36 hH37
    refine RL.gT rfl (bR (c := true) (by rw [any_end ‹_›]; exact up_any r s k)) ?_
    refine RL.val rfl (run_move e2_7) ?_
    refine RL.gT rfl (bR (c := true) (by rw [any_end ‹_›]; exact up_any r s k)) ?_
    refine RL.callP rfl hH37 (c_clearanceref01_Has _ _  _) (run_call2 Tryd.call31 rfl rfl) ?_
    intro w38 hH39
    refine RL.gT rfl (bR (c := true) (by rw [any_end ‹_›]; exact up_any r s k)) ?_
    refine RL.val rfl (run_move e8_7) ?_
    refine RL.gT rfl (bR (c := true) (by rw [any_end ‹_›]; exact up_any r s k)) ?_
    refine RL.val rfl (run_eqlB Tryd.underlying4 rfl rfl) ?_
    refine RL.val rfl (run_pickT (bR (c := true) (by rw [any_end ‹_›]; exact up_any r s k)) (v := B _) rfl) ?_
    refine RL.val rfl (run_move (v := B _) rfl) ?_
    refine RL.gT rfl (bR (c := true) (by rw [any_end ‹_›]; exact down_any r s k)) ?_
    refine RL.callP rfl hH39 (c_clearancelaw03_alive   _ (hT.hp hH39)) (run_call0 Tryd.call29) ?_
    intro w42 hH43
    refine RL.val rfl (run_pickT (bR (c := true) (by rw [any_end ‹_›]; exact down_any r s k)) (v := B _) rfl) ?_
    refine RL.val rfl (run_assign (v := B _) rfl) ?_
    refine RL.nil ?_
    refine CW.ret ?_
    refine outP1 Tryd.results5 (congrArg B ?_) hH43.below
    rfl

end Go.Proofs.YtgpneklbdmgjgaaDoor.W
