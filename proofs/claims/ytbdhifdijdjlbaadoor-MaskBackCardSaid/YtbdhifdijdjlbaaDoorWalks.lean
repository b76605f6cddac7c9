/-
  The walks of the functions that the laws of this seat reach: each returns what its plain counterpart tells, and turns nothing that was there.
-/
import Derived.Test.YtbdhifdijdjlbaaDoorProg
import Derived.Test.YtbdhifdijdjlbaaDoorEnv
import Derived.Test.YtbdhifdijdjlbaaDoorPlain
import Derived.Test.YtbdhifdijdjlbaaDoorBase
namespace Go.Proofs.YtbdhifdijdjlbaaDoor.W
open Go Go.RowKit Go.Proofs.YtbdhifdijdjlbaaDoor.E Go.Proofs.YtbdhifdijdjlbaaDoor.M
set_option linter.unusedVariables false
set_option linter.unusedSimpArgs false
set_option maxRecDepth 100000

theorem c_mask_Below (n : Int) (w : World) : Calls Tryd.prog 25 #[I n] w (Pure (U (below n)) w) := by
  refine enter Tryd.func25 rfl Tryd.ntmps25 rfl ?_
  have hH := Hp.start w
  refine CW.seq ?_
  refine CW.region ?_
  refine RL.val rfl (run_assign (v := U 0#64) rfl) ?_
  refine RL.nil ?_
  refine CW.seq ?_
  refine CW.seq ?_
  refine CW.region ?_
  refine RL.val rfl (run_move (v := I _) rfl) ?_
  refine RL.val rfl (run_leq rfl rfl) ?_
  refine RL.nil ?_
  refine CW.condP rfl (fun h2 => ?_) (fun h2 => ?_)
  · refine CW.seq ?_
    refine CW.region ?_
    refine RL.val rfl (run_assign (v := U 0#64) rfl) ?_
    refine RL.nil ?_
    refine CW.ret ?_
    exact outP1 Tryd.results25 (congrArg U (below_nonpos ‹_›).symm) hH.below
  · refine CW.skip ?_
    refine CW.seq ?_
    refine CW.seq ?_
    refine CW.region ?_
    refine RL.val rfl (run_move (v := I _) rfl) ?_
    refine RL.val rfl (run_geq rfl rfl) ?_
    refine RL.nil ?_
    refine CW.condP rfl (fun h4 => ?_) (fun h4 => ?_)
    · refine CW.seq ?_
      refine CW.region ?_
      refine RL.val rfl (run_assign (v := U 18446744073709551615#64) rfl) ?_
      refine RL.nil ?_
      refine CW.ret ?_
      exact outP1 Tryd.results25 (congrArg U (below_all ‹_›).symm) hH.below
    · refine CW.skip ?_
      refine CW.seq ?_
      refine CW.region ?_
      refine RL.val rfl (run_move (v := I _) rfl) ?_
      refine RL.val rfl (run_convIU Tryd.underlying3 Tryd.underlying41 rfl) ?_
      refine RL.val rfl (run_shlU (a := 1#64) rfl rfl) ?_
      refine RL.val rfl (run_subU rfl (b := 1#64) rfl) ?_
      refine RL.val rfl (run_assign (v := U _) rfl) ?_
      refine RL.nil ?_
      refine CW.ret ?_
      exact outP1 Tryd.results25 (congrArg U (below_mid ‹_› ‹_›).symm) hH.below

theorem c_mask_in (i : Int) (w : World) : Calls Tryd.prog 30 #[I i] w (Pure (B (inB i)) w) := by
  refine enter Tryd.func30 rfl Tryd.ntmps30 rfl ?_
  have hH := Hp.start w
  refine CW.seq ?_
  refine CW.region ?_
  refine RL.val rfl (run_assign (v := B false) rfl) ?_
  refine RL.nil ?_
  refine CW.seq ?_
  refine CW.region ?_
  refine RL.val rfl (run_move (v := I _) rfl) ?_
  refine RL.val rfl (run_geq rfl rfl) ?_
  refine RL.val rfl (run_move (v := B _) rfl) ?_
  refine RL.splitP (dj := 5) rfl (fun h2 => ?_) (fun h2 => ?_)
  · refine RL.gT rfl (bT h2) ?_
    refine RL.val rfl (run_move (v := I _) rfl) ?_
    refine RL.gT rfl (bT h2) ?_
    refine RL.val rfl (run_lss rfl rfl) ?_
    refine RL.val rfl (run_pickT (bT h2) (v := B _) rfl) ?_
    refine RL.val rfl (run_assign (v := B _) rfl) ?_
    refine RL.nil ?_
    refine CW.ret ?_
    refine outP1 Tryd.results30 (congrArg B ?_) hH.below
    (simp [inB]; try omega)
  · refine RL.gF rfl rfl (bF h2) rfl ?_
    refine RL.gF rfl rfl (bF h2) rfl ?_
    refine RL.val rfl (run_pickF (bF h2) (v := B false) rfl) ?_
    refine RL.val rfl (run_assign (v := B _) rfl) ?_
    refine RL.nil ?_
    refine CW.ret ?_
    refine outP1 Tryd.results30 (congrArg B ?_) hH.below
    (simp [inB]; try omega)

theorem c_mask_Has (s : BitVec 64) (i : Int) (w : World) : Calls Tryd.prog 18 #[U s, I i] w (Pure (B (hasB s i)) w) := by
  refine enter Tryd.func18 rfl Tryd.ntmps18 rfl ?_
  have hH := Hp.start w
  refine CW.seq ?_
  refine CW.region ?_
  refine RL.val rfl (run_assign (v := B false) rfl) ?_
  refine RL.nil ?_
  refine CW.seq ?_
  refine CW.region ?_
  refine RL.val rfl (run_move (v := I _) rfl) ?_
  refine RL.callP rfl hH (c_mask_in _  _) (run_call1 Tryd.call30 rfl) ?_
  intro w1 hH2
  refine RL.val rfl (run_move (v := B _) rfl) ?_
  refine RL.split (dj := 7) rfl (fun h4 => ?_) (fun h4 => ?_)
  · refine RL.gT rfl (bR (c := true) h4) ?_
    refine RL.val rfl (run_move (v := U _) rfl) ?_
    refine RL.gT rfl (bR (c := true) h4) ?_
    refine RL.val rfl (run_move (v := I _) rfl) ?_
    refine RL.gT rfl (bR (c := true) h4) ?_
    refine RL.val rfl (run_convIU Tryd.underlying3 Tryd.underlying41 rfl) ?_
    refine RL.gT rfl (bR (c := true) h4) ?_
    refine RL.val rfl (run_shrU rfl rfl) ?_
    refine RL.gT rfl (bR (c := true) h4) ?_
    refine RL.val rfl (run_andU rfl (b := 1#64) rfl) ?_
    refine RL.gT rfl (bR (c := true) h4) ?_
    refine RL.val rfl (run_eqlU rfl (b := 1#64) rfl) ?_
    refine RL.val rfl (run_pickT (bR (c := true) h4) (v := B _) rfl) ?_
    refine RL.val rfl (run_assign (v := B _) rfl) ?_
    refine RL.nil ?_
    refine CW.ret ?_
    refine outP1 Tryd.results18 (congrArg B ?_) hH2.below
    exact has_bit s ‹inB i = true›
  · refine RL.gF rfl rfl (bR (c := false) h4) rfl ?_
    refine RL.gF rfl rfl (bR (c := false) h4) rfl ?_
    refine RL.gF rfl rfl (bR (c := false) h4) rfl ?_
    refine RL.gF rfl rfl (bR (c := false) h4) rfl ?_
    refine RL.gF rfl rfl (bR (c := false) h4) rfl ?_
    refine RL.gF rfl rfl (bR (c := false) h4) rfl ?_
    refine RL.val rfl (run_pickF (bR (c := false) h4) (v := B false) rfl) ?_
    refine RL.val rfl (run_assign (v := B _) rfl) ?_
    refine RL.nil ?_
    refine CW.ret ?_
    refine outP1 Tryd.results18 (congrArg B ?_) hH2.below
    exact (has_no s ‹inB i = false›).symm

theorem c_mask_With (s : BitVec 64) (i : Int) (w : World) : Calls Tryd.prog 21 #[U s, I i] w (Pure (U (withB s i)) w) := by
  refine enter Tryd.func21 rfl Tryd.ntmps21 rfl ?_
  have hH := Hp.start w
  refine CW.seq ?_
  refine CW.region ?_
  refine RL.val rfl (run_assign (v := U 0#64) rfl) ?_
  refine RL.nil ?_
  refine CW.seq ?_
  refine CW.seq ?_
  refine CW.region ?_
  refine RL.val rfl (run_move (v := I _) rfl) ?_
  refine RL.callP rfl hH (c_mask_in _  _) (run_call1 Tryd.call30 rfl) ?_
  intro w1 hH2
  refine RL.val rfl (run_not rfl) ?_
  refine RL.nil ?_
  refine CW.cond rfl (fun h5 => ?_) (fun h5 => ?_)
  · refine CW.seq ?_
    refine CW.region ?_
    refine RL.val rfl (run_move (v := U _) rfl) ?_
    refine RL.val rfl (run_assign (v := U _) rfl) ?_
    refine RL.nil ?_
    refine CW.ret ?_
    refine outP1 Tryd.results21 (congrArg U ?_) hH2.below
    simp_all [withB]
  · refine CW.skip ?_
    refine CW.seq ?_
    refine CW.region ?_
    refine RL.val rfl (run_move (v := U _) rfl) ?_
    refine RL.val rfl (run_move (v := I _) rfl) ?_
    refine RL.val rfl (run_convIU Tryd.underlying3 Tryd.underlying41 rfl) ?_
    refine RL.val rfl (run_shlU (a := 1#64) rfl rfl) ?_
    refine RL.val rfl (run_orU rfl rfl) ?_
    refine RL.val rfl (run_assign (v := U _) rfl) ?_
    refine RL.nil ?_
    refine CW.ret ?_
    refine outP1 Tryd.results21 (congrArg U ?_) hH2.below
    simp_all [withB]

theorem c_mask_Without (s : BitVec 64) (i : Int) (w : World) : Calls Tryd.prog 20 #[U s, I i] w (Pure (U (lessB s i)) w) := by
  refine enter Tryd.func20 rfl Tryd.ntmps20 rfl ?_
  have hH := Hp.start w
  refine CW.seq ?_
  refine CW.region ?_
  refine RL.val rfl (run_assign (v := U 0#64) rfl) ?_
  refine RL.nil ?_
  refine CW.seq ?_
  refine CW.seq ?_
  refine CW.region ?_
  refine RL.val rfl (run_move (v := I _) rfl) ?_
  refine RL.callP rfl hH (c_mask_in _  _) (run_call1 Tryd.call30 rfl) ?_
  intro w1 hH2
  refine RL.val rfl (run_not rfl) ?_
  refine RL.nil ?_
  refine CW.cond rfl (fun h5 => ?_) (fun h5 => ?_)
  · refine CW.seq ?_
    refine CW.region ?_
    refine RL.val rfl (run_move (v := U _) rfl) ?_
    refine RL.val rfl (run_assign (v := U _) rfl) ?_
    refine RL.nil ?_
    refine CW.ret ?_
    refine outP1 Tryd.results20 (congrArg U ?_) hH2.below
    simp_all [lessB]
  · refine CW.skip ?_
    refine CW.seq ?_
    refine CW.region ?_
    refine RL.val rfl (run_move (v := U _) rfl) ?_
    refine RL.val rfl (run_move (v := I _) rfl) ?_
    refine RL.val rfl (run_convIU Tryd.underlying3 Tryd.underlying41 rfl) ?_
    refine RL.val rfl (run_shlU (a := 1#64) rfl rfl) ?_
    refine RL.val rfl (run_andNotU rfl rfl) ?_
    refine RL.val rfl (run_assign (v := U _) rfl) ?_
    refine RL.nil ?_
    refine CW.ret ?_
    refine outP1 Tryd.results20 (congrArg U ?_) hH2.below
    simp_all [lessB]

theorem c_mask_Sub (a b : BitVec 64) (w : World) : Calls Tryd.prog 23 #[U a, U b] w (Pure (B (subB a b)) w) := by
  refine enter Tryd.func23 rfl Tryd.ntmps23 rfl ?_
  have hH := Hp.start w
  refine CW.seq ?_
  refine CW.region ?_
  refine RL.val rfl (run_assign (v := B false) rfl) ?_
  refine RL.nil ?_
  refine CW.seq ?_
  refine CW.region ?_
  refine RL.val rfl (run_move (v := U _) rfl) ?_
  refine RL.val rfl (run_move (v := U _) rfl) ?_
  refine RL.val rfl (run_andNotU rfl rfl) ?_
  refine RL.val rfl (run_eqlU rfl (b := 0#64) rfl) ?_
  refine RL.val rfl (run_assign (v := B _) rfl) ?_
  refine RL.nil ?_
  refine CW.ret ?_
  refine outP1 Tryd.results23 (congrArg B ?_) hH.below
  rfl

theorem c_mask_Of (v : Value) (l : List Int) (w : World) (hs : Sl w v 1 l.length (l.map I)) : Calls Tryd.prog 16 #[v] w (Pure (U (ofl l)) w) := by
  have hm := hs.small
  unfold maxLen at hm
  refine enter Tryd.func16 rfl Tryd.ntmps16 rfl ?_
  have hH := Hp.start w
  refine CW.seq ?_
  refine CW.region ?_
  refine RL.val rfl (run_assign (v := U 0#64) rfl) ?_
  refine RL.nil ?_
  refine CW.seq ?_
  refine CW.region ?_
  refine RL.val rfl (run_assign (v := U 0#64) rfl) ?_
  refine RL.nil ?_
  refine CW.seq ?_
  refine CW.seq ?_
  refine CW.region ?_
  refine RL.val rfl (run_move (by conv => lhs; whnf)) ?_
  refine RL.val rfl (run_lenSl (hs.hp hH) rfl Tryd.underlying23 rfl) ?_
  refine RL.val rfl (run_move (v := I 0) rfl) ?_
  refine RL.nil ?_
  refine CW.block ?_
  refine CW.loop (G := (Int)) (fun (k : Int) s' w' => (Fr [3, 5, 8, 9, 10, 11, 12, 13, 14, 15] _ s') ∧ (Hp w w' _) ∧ (s' 3 = U (ofl (l.take k.toNat))) ∧ (s' 8 = I k) ∧ (0 ≤ k) ∧ (k ≤ l.length)) (fun (k : Int) => (l.length - k).toNat) (0) ⟨Fr.refl _ _, hH, (congrArg U (by simp [ofl_nil])), rfl, (by omega), (by omega)⟩ ?_
  rintro k sg1 w1 ⟨fr1, hH1, e3_1, e8_1, h0, hk⟩
  have e2_1 : sg1 2 = U _ := (fr1 2 rfl).trans rfl
  have e6_1 := (fr1 6 rfl).trans (by conv => lhs; whnf)
  have e7_1 : sg1 7 = I _ := (fr1 7 rfl).trans rfl
  refine CW.seq ?_
  refine CW.region ?_
  refine RL.val rfl (run_lss e8_1 e7_1) ?_
  refine RL.nil ?_
  refine CW.seq ?_
  refine CW.condP rfl (fun h3 => ?_) (fun h3 => ?_)
  · refine CW.skip ?_
    refine CW.seq ?_
    refine CW.block ?_
    refine CW.seq ?_
    refine CW.region ?_
    refine RL.val rfl (run_indexAddrS (hs.hp hH1) Tryd.underlying23 Tryd.sizeOf3 e6_1 e8_1 (by omega)) ?_
    refine RL.val rfl (run_ld Tryd.underlying3 rfl rfl ((hs.hp hH1).cell _ _ (map_at (by omega)))) ?_
    refine RL.val rfl (run_assign (v := I _) rfl) ?_
    refine RL.nil ?_
    refine CW.region ?_
    refine RL.val rfl (run_move e3_1) ?_
    refine RL.val rfl (run_move (v := I _) rfl) ?_
    refine RL.callP rfl hH1 (c_mask_With _ _  _) (run_call2 Tryd.call21 rfl rfl) ?_
    intro w4 hH5
    refine RL.val rfl (run_assign (v := U _) rfl) ?_
    refine RL.nil ?_
    refine CW.region ?_
    refine RL.val rfl (run_add e8_1 rfl (by omega)) ?_
    refine RL.val rfl (run_move (v := I _) rfl) ?_
    refine RL.nil ?_
    refine ⟨k + 1, ?_, (((((((((fr1.u rfl).u rfl).u rfl).u rfl).u rfl).u rfl).u rfl).u rfl).u rfl).u rfl, hH5, (congrArg U (by rw [withB_ofl, ← take_next h0 ‹_›])), (congrArg I (by first | rfl | omega)), ?_, ?_⟩
    · ((try dsimp only); omega)
    · omega
    · omega
  · refine CW.exit (id := 0) rfl ?_
    refine CW.seq ?_
    refine CW.region ?_
    refine RL.val rfl (run_move e3_1) ?_
    refine RL.val rfl (run_assign (v := U _) rfl) ?_
    refine RL.nil ?_
    refine CW.ret ?_
    refine outP1 Tryd.results16 (congrArg U ?_) hH1.below
    rw [take_all ‹_›]

theorem c_clearanceref01_Has (s : BitVec 64) (i : Int) (w : World) : Calls Tryd.prog 19 #[U s, I i] w (Pure (B (hasB s i)) w) := by
  refine enter Tryd.func19 rfl Tryd.ntmps19 rfl ?_
  have hH := Hp.start w
  refine CW.seq ?_
  refine CW.region ?_
  refine RL.val rfl (run_assign (v := B false) rfl) ?_
  refine RL.nil ?_
  refine CW.seq ?_
  refine CW.seq ?_
  refine CW.region ?_
  refine RL.val rfl (run_move (v := I _) rfl) ?_
  refine RL.val rfl (run_lss rfl rfl) ?_
  refine RL.val rfl (run_move (v := B _) rfl) ?_
  refine RL.splitP (dj := 8) rfl (fun h2 => ?_) (fun h2 => ?_)
  · refine RL.gF rfl rfl (bT h2) rfl ?_
    refine RL.gF rfl rfl (bT h2) rfl ?_
    refine RL.val rfl (run_pickT (bT h2) (v := B true) rfl) ?_
    refine RL.nil ?_
    refine CW.condT rfl ?_
    refine CW.seq ?_
    refine CW.region ?_
    refine RL.val rfl (run_assign (v := B false) rfl) ?_
    refine RL.nil ?_
    refine CW.ret ?_
    refine outP1 Tryd.results19 (congrArg B ?_) hH.below
    exact (has_no s (by simp [inB]; omega)).symm
  · refine RL.gT rfl (bF h2) ?_
    refine RL.val rfl (run_move (v := I _) rfl) ?_
    refine RL.gT rfl (bF h2) ?_
    refine RL.val rfl (run_gtr rfl rfl) ?_
    refine RL.val rfl (run_pickF (bF h2) (v := B _) rfl) ?_
    refine RL.nil ?_
    refine CW.condP rfl (fun h4 => ?_) (fun h4 => ?_)
    · refine CW.seq ?_
      refine CW.region ?_
      refine RL.val rfl (run_assign (v := B false) rfl) ?_
      refine RL.nil ?_
      refine CW.ret ?_
      refine outP1 Tryd.results19 (congrArg B ?_) hH.below
      exact (has_no s (by simp [inB]; omega)).symm
    · refine CW.skip ?_
      refine CW.seq ?_
      refine CW.seq ?_
      refine CW.region ?_
      refine RL.val rfl (run_assign (v := I 0) rfl) ?_
      refine RL.nil ?_
      refine CW.block ?_
      refine CW.loop (G := (Int)) (fun (k : Int) s' w' => (Fr [0, 5, 12, 13, 14, 15, 16, 17, 18] _ s') ∧ (Hp w w' _) ∧ (s' 0 = U (s >>> k.toNat)) ∧ (s' 5 = I k) ∧ (0 ≤ k) ∧ (k ≤ i)) (fun (k : Int) => (i - k).toNat) (0) ⟨Fr.refl _ _, hH, (congrArg U (by simp)), rfl, (by omega), (by omega)⟩ ?_
      rintro k sg5 w5 ⟨fr5, hH5, e0_5, e5_5, h0, hk⟩
      have e1_5 : sg5 1 = I _ := (fr5 1 rfl).trans rfl
      have e4_5 : sg5 4 = B _ := (fr5 4 rfl).trans rfl
      refine CW.seq ?_
      refine CW.seq ?_
      refine CW.region ?_
      refine RL.val rfl (run_move e5_5) ?_
      refine RL.val rfl (run_move e1_5) ?_
      refine RL.val rfl (run_lss rfl rfl) ?_
      refine RL.nil ?_
      refine CW.condP rfl (fun h7 => ?_) (fun h7 => ?_)
      · refine CW.skip ?_
        refine CW.seq ?_
        refine CW.block ?_
        refine CW.region ?_
        refine RL.val rfl (run_move e0_5) ?_
        refine RL.val rfl (run_quoU rfl (b := 2#64) rfl (by decide)) ?_
        refine RL.val rfl (run_assign (v := U _) rfl) ?_
        refine RL.nil ?_
        refine CW.region ?_
        refine RL.val rfl (run_move e5_5) ?_
        refine RL.val rfl (run_add rfl rfl (by omega)) ?_
        refine RL.val rfl (run_assign (v := I _) rfl) ?_
        refine RL.nil ?_
        refine ⟨k + 1, ?_, ((((((((fr5.u rfl).u rfl).u rfl).u rfl).u rfl).u rfl).u rfl).u rfl).u rfl, hH5, (congrArg U (by rw [half, show (k + 1).toNat = k.toNat + 1 by omega])), (congrArg I (by first | rfl | omega)), ?_, ?_⟩
        · ((try dsimp only); omega)
        · omega
        · omega
      · refine CW.exit (id := 0) rfl ?_
        refine CW.seq ?_
        refine CW.region ?_
        refine RL.val rfl (run_move e0_5) ?_
        refine RL.val rfl (run_remU rfl (b := 2#64) rfl (by decide)) ?_
        refine RL.val rfl (run_eqlU rfl (b := 1#64) rfl) ?_
        refine RL.val rfl (run_assign (v := B _) rfl) ?_
        refine RL.nil ?_
        refine CW.ret ?_
        refine outP1 Tryd.results19 (congrArg B ?_) hH5.below
        (rw [hasB, show inB i = true by simp [inB]; omega, show k = i by omega]; rw [Bool.eq_iff_iff]; simp only [decide_eq_true_eq, Bool.true_and]; exact rem_bit s _)

theorem c_clearanceref01_Of (v : Value) (l : List Int) (w : World) (hs : Sl w v 1 l.length (l.map I)) : Calls Tryd.prog 17 #[v] w (Pure (U (ofl l)) w) := by
  have hm := hs.small
  unfold maxLen at hm
  refine enter Tryd.func17 rfl Tryd.ntmps17 rfl ?_
  have hH := Hp.start w
  refine CW.seq ?_
  refine CW.region ?_
  refine RL.val rfl (run_assign (v := U 0#64) rfl) ?_
  refine RL.nil ?_
  refine CW.seq ?_
  refine CW.region ?_
  refine RL.val rfl (run_assign (v := U 0#64) rfl) ?_
  refine RL.val rfl (run_assign (v := U 1#64) rfl) ?_
  refine RL.nil ?_
  refine CW.seq ?_
  refine CW.seq ?_
  refine CW.region ?_
  refine RL.val rfl (run_assign (v := I 0) rfl) ?_
  refine RL.nil ?_
  refine CW.block ?_
  refine CW.loop (G := (Int)) (fun (i : Int) s' w' => (Fr [3, 4, 5, 6, 7, 8, 9, 10, 11, 12, 13, 14, 15, 16, 17, 18, 19, 20, 21, 22, 23, 24, 25, 26, 27] _ s') ∧ (Hp w w' _) ∧ (s' 3 = U (oflTo l i.toNat)) ∧ (s' 4 = U (1#64 <<< i.toNat)) ∧ (s' 5 = I i) ∧ (0 ≤ i) ∧ (i ≤ 64)) (fun (i : Int) => (64 - i).toNat) (0) ⟨Fr.refl _ _, hH, (congrArg U (by rfl)), (congrArg U (by rfl)), rfl, (by omega), (by omega)⟩ ?_
  rintro i sg1 w1 ⟨fr1, hH1, e3_1, e4_1, e5_1, i0, i1⟩
  have e0_1 := (fr1 0 rfl).trans (by conv => lhs; whnf)
  have e2_1 : sg1 2 = U _ := (fr1 2 rfl).trans rfl
  refine CW.seq ?_
  refine CW.seq ?_
  refine CW.region ?_
  refine RL.val rfl (run_move e5_1) ?_
  refine RL.val rfl (run_lss rfl rfl) ?_
  refine RL.nil ?_
  refine CW.condP rfl (fun h3 => ?_) (fun h3 => ?_)
  · refine CW.skip ?_
    refine CW.seq ?_
    refine CW.block ?_
    refine CW.seq ?_
    refine CW.seq ?_
    refine CW.region ?_
    refine RL.val rfl (run_assign (v := I 0) rfl) ?_
    refine RL.nil ?_
    refine CW.block ?_
    refine CW.loop (G := (Int)) (fun (k : Int) s' w' => (Fr [3, 6, 11, 12, 13, 14, 15, 16, 17, 18, 19, 20, 21, 22, 23, 24, 25] _ s') ∧ (Hp w w' _) ∧ (s' 3 = U (oflTo l i.toNat)) ∧ (s' 6 = I k) ∧ (0 ≤ k) ∧ (k ≤ l.length) ∧ (∀ j : Int, 0 ≤ j → j < k → l.getD j.toNat 0 ≠ i)) (fun (k : Int) => (l.length - k).toNat) (0) ⟨Fr.refl _ _, hH1, e3_1, rfl, (by omega), (by omega), fun j a b => absurd b (by omega)⟩ ?_
    rintro k sg4 w4 ⟨fr4, hH4, e3_4, e6_4, k0, k1, hf⟩
    have e0_4 := (fr4 0 rfl).trans e0_1
    have e2_4 := (fr4 2 rfl).trans e2_1
    have e4_4 := (fr4 4 rfl).trans e4_1
    have e5_4 := (fr4 5 rfl).trans e5_1
    have e7_4 : sg4 7 = I _ := (fr4 7 rfl).trans rfl
    have e8_4 : sg4 8 = B _ := (fr4 8 rfl).trans rfl
    refine CW.seq ?_
    refine CW.seq ?_
    refine CW.region ?_
    refine RL.val rfl (run_move e6_4) ?_
    refine RL.val rfl (run_move e0_4) ?_
    refine RL.val rfl (run_lenSl (hs.hp hH4) rfl Tryd.underlying23 rfl) ?_
    refine RL.val rfl (run_lss rfl rfl) ?_
    refine RL.nil ?_
    refine CW.condP rfl (fun h6 => ?_) (fun h6 => ?_)
    · refine CW.skip ?_
      refine CW.seq ?_
      refine CW.block ?_
      refine CW.seq ?_
      refine CW.region ?_
      refine RL.val rfl (run_move e0_4) ?_
      refine RL.val rfl (run_move e6_4) ?_
      refine RL.val rfl (run_indexAddrS (hs.hp hH4) Tryd.underlying23 Tryd.sizeOf3 rfl rfl (by omega)) ?_
      refine RL.val rfl (run_ld Tryd.underlying3 rfl rfl ((hs.hp hH4).cell _ _ (map_at (by omega)))) ?_
      refine RL.val rfl (run_move e5_4) ?_
      refine RL.val rfl (run_eql rfl rfl) ?_
      refine RL.nil ?_
      refine CW.condP rfl (fun h8 => ?_) (fun h8 => ?_)
      · refine CW.seq ?_
        refine CW.region ?_
        refine RL.val rfl (run_move e3_4) ?_
        refine RL.val rfl (run_move e4_4) ?_
        refine RL.val rfl (run_addU rfl rfl) ?_
        refine RL.val rfl (run_assign (v := U _) rfl) ?_
        refine RL.nil ?_
        refine CW.exit (id := 2) rfl ?_
        refine CW.region ?_
        refine RL.val rfl (run_move e4_4) ?_
        refine RL.val rfl (run_mulU rfl (b := 2#64) rfl) ?_
        refine RL.val rfl (run_assign (v := U _) rfl) ?_
        refine RL.nil ?_
        refine CW.region ?_
        refine RL.val rfl (run_move e5_4) ?_
        refine RL.val rfl (run_add rfl rfl (by omega)) ?_
        refine RL.val rfl (run_assign (v := I _) rfl) ?_
        refine RL.nil ?_
        refine ⟨i + 1, ?_, ((((((((((((((((((((((((fr1.u rfl).u rfl).u rfl).t fr4 rfl)).u rfl).u rfl).u rfl).u rfl).u rfl).u rfl).u rfl).u rfl).u rfl).u rfl).u rfl).u rfl).u rfl).u rfl).u rfl).u rfl).u rfl).u rfl).u rfl).u rfl, hH4, (congrArg U (oflTo_yesI i0 (by omega) k0 (by omega) ‹_›)), (congrArg U (by rw [shl_two, show (i + 1).toNat = i.toNat + 1 by omega])), (congrArg I (by first | rfl | omega)), ?_, ?_⟩
        · ((try dsimp only); omega)
        · omega
        · omega
      · refine CW.skip ?_
        refine CW.region ?_
        refine RL.val rfl (run_move e6_4) ?_
        refine RL.val rfl (run_add rfl rfl (by omega)) ?_
        refine RL.val rfl (run_assign (v := I _) rfl) ?_
        refine RL.nil ?_
        refine ⟨k + 1, ?_, ((((((((((((fr4.u rfl).u rfl).u rfl).u rfl).u rfl).u rfl).u rfl).u rfl).u rfl).u rfl).u rfl).u rfl).u rfl, hH4, e3_4, (congrArg I (by first | rfl | omega)), ?_, ?_, ?_⟩
        · ((try dsimp only); omega)
        · omega
        · omega
        · exact fun j a b => if e : j = k then e ▸ ‹¬ l.getD k.toNat 0 = i› else hf j a (by omega)
    · refine CW.exit (id := 2) rfl ?_
      refine CW.region ?_
      refine RL.val rfl (run_move e4_4) ?_
      refine RL.val rfl (run_mulU rfl (b := 2#64) rfl) ?_
      refine RL.val rfl (run_assign (v := U _) rfl) ?_
      refine RL.nil ?_
      refine CW.region ?_
      refine RL.val rfl (run_move e5_4) ?_
      refine RL.val rfl (run_add rfl rfl (by omega)) ?_
      refine RL.val rfl (run_assign (v := I _) rfl) ?_
      refine RL.nil ?_
      refine ⟨i + 1, ?_, ((((((((((((((fr1.u rfl).u rfl).u rfl).t fr4 rfl)).u rfl).u rfl).u rfl).u rfl).u rfl).u rfl).u rfl).u rfl).u rfl).u rfl, hH4, (Eq.trans e3_4 (congrArg U (oflTo_noI i0 (fun j a b => hf j a (by omega))))), (congrArg U (by rw [shl_two, show (i + 1).toNat = i.toNat + 1 by omega])), (congrArg I (by first | rfl | omega)), ?_, ?_⟩
      · ((try dsimp only); omega)
      · omega
      · omega
  · refine CW.exit (id := 0) rfl ?_
    refine CW.seq ?_
    refine CW.region ?_
    refine RL.val rfl (run_move e3_1) ?_
    refine RL.val rfl (run_assign (v := U _) rfl) ?_
    refine RL.nil ?_
    refine CW.ret ?_
    refine outP1 Tryd.results17 (congrArg U ?_) hH1.below
    (rw [show i.toNat = 64 by omega]; rfl)

theorem c_clearanceref01_List (s : BitVec 64) (w : World) : Calls Tryd.prog 10 #[U s] w (PureRow 3 1 (lst s).length ((lst s).map I) w) := by
  refine enter Tryd.func10 rfl Tryd.ntmps10 rfl ?_
  have hH := Hp.start w
  refine CW.seq ?_
  refine CW.region ?_
  refine RL.val rfl (run_assign (v := .slice none 0 0) rfl) ?_
  have hH1 := hH.nilRow 3 1
  refine RL.nil ?_
  refine CW.seq ?_
  refine CW.region ?_
  refine RL.val rfl (run_assign (v := .slice none 0 0) rfl) ?_
  have hH2 := hH1.nilRow 3 1
  refine RL.nil ?_
  refine CW.seq ?_
  refine CW.seq ?_
  refine CW.region ?_
  refine RL.val rfl (run_assign (v := I 0) rfl) ?_
  refine RL.nil ?_
  refine CW.block ?_
  refine CW.loop (G := (Int) × (List Int) × (Value)) (fun (⟨k, l, v3⟩ : (Int) × (List Int) × (Value)) s' w' => (Fr [0, 3, 4, 5, 6, 7, 8, 9, 10, 11, 12, 13, 14, 15, 16, 17] _ s') ∧ (Hp w w' (.row v3 3 1 (l.length) (l.map I) :: _)) ∧ (s' 0 = U (s >>> k.toNat)) ∧ (s' 3 = v3) ∧ (s' 4 = I k) ∧ (0 ≤ k) ∧ (k ≤ 64) ∧ (l = lstTo s k.toNat)) (fun (⟨k, l, v3⟩ : (Int) × (List Int) × (Value)) => (64 - k).toNat) ((0, [], (.slice none 0 0 : Value))) ⟨Fr.refl _ _, hH2, (congrArg U (by simp)), rfl, rfl, (by omega), (by omega), rfl⟩ ?_
  rintro ⟨k, l, v3⟩ sg3 w3 ⟨fr3, hH3, e0_3, e3_3, e4_3, h0, hk, hl⟩
  have e2_3 := (fr3 2 rfl).trans (by conv => lhs; whnf)
  refine CW.seq ?_
  refine CW.seq ?_
  refine CW.region ?_
  refine RL.val rfl (run_move e4_3) ?_
  refine RL.val rfl (run_lss rfl rfl) ?_
  refine RL.nil ?_
  refine CW.condP rfl (fun h5 => ?_) (fun h5 => ?_)
  · refine CW.skip ?_
    refine CW.seq ?_
    refine CW.block ?_
    refine CW.seq ?_
    refine CW.seq ?_
    refine CW.region ?_
    refine RL.val rfl (run_move e0_3) ?_
    refine RL.val rfl (run_remU rfl (b := 2#64) rfl (by decide)) ?_
    refine RL.val rfl (run_eqlU rfl (b := 1#64) rfl) ?_
    refine RL.nil ?_
    refine CW.condP rfl (fun h7 => ?_) (fun h7 => ?_)
    · refine CW.region ?_
      refine RL.val rfl (run_move e3_3) ?_
      refine RL.val rfl (run_move e4_3) ?_
      refine RL.new rfl hH3 (f := fun b => (.slice (some ⟨b, 0, none⟩) 1 1)) (run_mkL Tryd.underlying23 rfl rfl (sz := 1) (vs := [I _]) rfl rfl (by decide) (by decide) rfl rfl) ?_
      intro b10 w8 hH9
      simp only [List.flatMap_cons, List.flatMap_nil, clI, clB, clS, clP, clL, clA, List.append_nil, List.cons_append, List.nil_append] at hH9
      refine RL.app rfl hH9 (i := 1) rfl (hH9.slBlk (i := 0) (n := 1) (sz := 1) rfl rfl (by decide)) rfl rfl Tryd.underlying23 rfl rfl (size := 1) (bytes := 8) rfl rfl rfl (by decide) (by simp [Value.oneCell']) (by have := lstTo_len s k.toNat; rw [← hl] at this; omega) (by have := lstTo_len s k.toNat; rw [← hl] at this; simp only [maxLen]; omega) ?_
      intro v11 w12 hH13
      simp only [List.set_cons_zero, List.set_cons_succ] at hH13
      refine RL.val rfl (run_assign (by conv => lhs; whnf)) ?_
      refine RL.nil ?_
      refine CW.region ?_
      refine RL.val rfl (run_move e0_3) ?_
      refine RL.val rfl (run_quoU rfl (b := 2#64) rfl (by decide)) ?_
      refine RL.val rfl (run_assign (v := U _) rfl) ?_
      refine RL.nil ?_
      refine CW.region ?_
      refine RL.val rfl (run_move e4_3) ?_
      refine RL.val rfl (run_add rfl rfl (by omega)) ?_
      refine RL.val rfl (run_assign (v := I _) rfl) ?_
      refine RL.nil ?_
      refine ⟨(k + 1, l ++ [k], v11), ?_, (((((((((((((((fr3.u rfl).u rfl).u rfl).u rfl).u rfl).u rfl).u rfl).u rfl).u rfl).u rfl).u rfl).u rfl).u rfl).u rfl).u rfl).u rfl, (Hp.conv (hH13.sub (.cons _ (List.Sublist.refl _))) (by first | rfl | simp)), (congrArg U (by rw [half, show (k + 1).toNat = k.toNat + 1 by omega])), rfl, (congrArg I (by first | rfl | omega)), ?_, ?_, ?_⟩
      · ((try dsimp only); omega)
      · omega
      · omega
      · rw [hl, lstTo_yes h0 ‹_›]
    · refine CW.skip ?_
      refine CW.region ?_
      refine RL.val rfl (run_move e0_3) ?_
      refine RL.val rfl (run_quoU rfl (b := 2#64) rfl (by decide)) ?_
      refine RL.val rfl (run_assign (v := U _) rfl) ?_
      refine RL.nil ?_
      refine CW.region ?_
      refine RL.val rfl (run_move e4_3) ?_
      refine RL.val rfl (run_add rfl rfl (by omega)) ?_
      refine RL.val rfl (run_assign (v := I _) rfl) ?_
      refine RL.nil ?_
      refine ⟨(k + 1, l, v3), ?_, ((((((((((fr3.u rfl).u rfl).u rfl).u rfl).u rfl).u rfl).u rfl).u rfl).u rfl).u rfl).u rfl, (Hp.conv hH3 (by first | rfl | simp)), (congrArg U (by rw [half, show (k + 1).toNat = k.toNat + 1 by omega])), e3_3, (congrArg I (by first | rfl | omega)), ?_, ?_, ?_⟩
      · ((try dsimp only); omega)
      · omega
      · omega
      · rw [hl, lstTo_no h0 ‹_›]
  · refine CW.exit (id := 0) rfl ?_
    refine CW.seq ?_
    refine CW.region ?_
    refine RL.val rfl (run_move e3_3) ?_
    refine RL.val rfl (run_assign (by conv => lhs; whnf)) ?_
    refine RL.nil ?_
    refine CW.ret ?_
    exact outR Tryd.results10 rfl hH3 (i := 0) rfl (by rw [hl, lstTo_end ‹_› hk]) (by rw [hl, lstTo_end ‹_› hk])

theorem c_bits_OnesCount64 (s : BitVec 64) (w : World) : Calls Tryd.prog 31 #[U s] w (Pure (I (pop s)) w) := by
  refine enter Tryd.func31 rfl Tryd.ntmps31 rfl ?_
  have hH := Hp.start w
  refine CW.seq ?_
  refine CW.region ?_
  refine RL.val rfl (run_assign (v := I 0) rfl) ?_
  refine RL.nil ?_
  refine CW.seq ?_
  refine CW.region ?_
  refine RL.val rfl (run_move (v := U _) rfl) ?_
  refine RL.val rfl (run_shrU rfl (b := 1#64) rfl) ?_
  refine RL.val rfl (run_andU rfl (b := 6148914691236517205#64) rfl) ?_
  refine RL.val rfl (run_move (v := U _) rfl) ?_
  refine RL.val rfl (run_andU rfl (b := 6148914691236517205#64) rfl) ?_
  refine RL.val rfl (run_addU rfl rfl) ?_
  refine RL.val rfl (run_assign (v := U _) rfl) ?_
  refine RL.nil ?_
  refine CW.seq ?_
  refine CW.region ?_
  refine RL.val rfl (run_move (v := U _) rfl) ?_
  refine RL.val rfl (run_shrU rfl (b := 2#64) rfl) ?_
  refine RL.val rfl (run_andU rfl (b := 3689348814741910323#64) rfl) ?_
  refine RL.val rfl (run_move (v := U _) rfl) ?_
  refine RL.val rfl (run_andU rfl (b := 3689348814741910323#64) rfl) ?_
  refine RL.val rfl (run_addU rfl rfl) ?_
  refine RL.val rfl (run_assign (v := U _) rfl) ?_
  refine RL.nil ?_
  refine CW.seq ?_
  refine CW.region ?_
  refine RL.val rfl (run_move (v := U _) rfl) ?_
  refine RL.val rfl (run_shrU rfl (b := 4#64) rfl) ?_
  refine RL.val rfl (run_move (v := U _) rfl) ?_
  refine RL.val rfl (run_addU rfl rfl) ?_
  refine RL.val rfl (run_andU rfl (b := 1085102592571150095#64) rfl) ?_
  refine RL.val rfl (run_assign (v := U _) rfl) ?_
  refine RL.nil ?_
  refine CW.seq ?_
  refine CW.region ?_
  refine RL.val rfl (run_move (v := U _) rfl) ?_
  refine RL.val rfl (run_move (v := U _) rfl) ?_
  refine RL.val rfl (run_shrU rfl (b := 8#64) rfl) ?_
  refine RL.val rfl (run_addU rfl rfl) ?_
  refine RL.val rfl (run_assign (v := U _) rfl) ?_
  refine RL.nil ?_
  refine CW.seq ?_
  refine CW.region ?_
  refine RL.val rfl (run_move (v := U _) rfl) ?_
  refine RL.val rfl (run_move (v := U _) rfl) ?_
  refine RL.val rfl (run_shrU rfl (b := 16#64) rfl) ?_
  refine RL.val rfl (run_addU rfl rfl) ?_
  refine RL.val rfl (run_assign (v := U _) rfl) ?_
  refine RL.nil ?_
  refine CW.seq ?_
  refine CW.region ?_
  refine RL.val rfl (run_move (v := U _) rfl) ?_
  refine RL.val rfl (run_move (v := U _) rfl) ?_
  refine RL.val rfl (run_shrU rfl (b := 32#64) rfl) ?_
  refine RL.val rfl (run_addU rfl rfl) ?_
  refine RL.val rfl (run_assign (v := U _) rfl) ?_
  refine RL.nil ?_
  refine CW.seq ?_
  refine CW.region ?_
  refine RL.val rfl (run_move (v := U _) rfl) ?_
  refine RL.val rfl (run_convUS Tryd.underlying22 Tryd.underlying3 rfl) ?_
  refine RL.val rfl (run_andI rfl (b := 127#64) rfl) ?_
  refine RL.val rfl (run_assign (v := I _) rfl) ?_
  refine RL.nil ?_
  refine CW.ret ?_
  refine outP1 Tryd.results31 (congrArg I ?_) hH.below
  rfl

theorem c_mask_Count (s : BitVec 64) (w : World) : Calls Tryd.prog 24 #[U s] w (Pure (I (pop s)) w) := by
  refine enter Tryd.func24 rfl Tryd.ntmps24 rfl ?_
  have hH := Hp.start w
  refine CW.seq ?_
  refine CW.region ?_
  refine RL.val rfl (run_assign (v := I 0) rfl) ?_
  refine RL.nil ?_
  refine CW.seq ?_
  refine CW.region ?_
  refine RL.val rfl (run_move (v := U _) rfl) ?_
  refine RL.callP rfl hH (c_bits_OnesCount64 _  _) (run_call1 Tryd.call31 rfl) ?_
  intro w1 hH2
  refine RL.val rfl (run_assign (v := I _) rfl) ?_
  refine RL.nil ?_
  refine CW.ret ?_
  refine outP1 Tryd.results24 (congrArg I ?_) hH2.below
  rfl

theorem c_clearanceref01_Below (n : Int) (w : World) : Calls Tryd.prog 26 #[I n] w (Pure (U (below n)) w) := by
  refine enter Tryd.func26 rfl Tryd.ntmps26 rfl ?_
  have hH := Hp.start w
  refine CW.seq ?_
  refine CW.region ?_
  refine RL.val rfl (run_assign (v := U 0#64) rfl) ?_
  refine RL.nil ?_
  refine CW.seq ?_
  refine CW.region ?_
  refine RL.val rfl (run_assign (v := .slice none 0 0) rfl) ?_
  have hH1 := hH.nilRow 3 1
  refine RL.nil ?_
  refine CW.seq ?_
  refine CW.seq ?_
  refine CW.region ?_
  refine RL.val rfl (run_assign (v := I 0) rfl) ?_
  refine RL.nil ?_
  refine CW.block ?_
  refine CW.loop (G := (Int) × (List Int) × (Value)) (fun (⟨k, l, v3⟩ : (Int) × (List Int) × (Value)) s' w' => (Fr [3, 4, 5, 6, 7, 8, 9, 10, 11, 12, 13, 14, 15, 16, 17] _ s') ∧ (Hp w w' (.row v3 3 1 (l.length) (l.map I) :: _)) ∧ (s' 3 = v3) ∧ (s' 4 = I k) ∧ (0 ≤ k) ∧ (k ≤ 64) ∧ (k ≤ max n 0) ∧ (l = upto k)) (fun (⟨k, l, v3⟩ : (Int) × (List Int) × (Value)) => (64 - k).toNat) ((0, [], (.slice none 0 0 : Value))) ⟨Fr.refl _ _, hH1, rfl, rfl, (by omega), (by omega), (by omega), rfl⟩ ?_
  rintro ⟨k, l, v3⟩ sg2 w2 ⟨fr2, hH2, e3_2, e4_2, h0, hk, hn, hl⟩
  have e0_2 : sg2 0 = I _ := (fr2 0 rfl).trans rfl
  have e2_2 : sg2 2 = U _ := (fr2 2 rfl).trans rfl
  refine CW.seq ?_
  refine CW.seq ?_
  refine CW.region ?_
  refine RL.val rfl (run_move e4_2) ?_
  refine RL.val rfl (run_move e0_2) ?_
  refine RL.val rfl (run_lss rfl rfl) ?_
  refine RL.val rfl (run_move (v := B _) rfl) ?_
  refine RL.splitP (dj := 8) rfl (fun h4 => ?_) (fun h4 => ?_)
  · refine RL.gT rfl (bT h4) ?_
    refine RL.val rfl (run_move e4_2) ?_
    refine RL.gT rfl (bT h4) ?_
    refine RL.val rfl (run_lss rfl rfl) ?_
    refine RL.val rfl (run_pickT (bT h4) (v := B _) rfl) ?_
    refine RL.nil ?_
    refine CW.condP rfl (fun h6 => ?_) (fun h6 => ?_)
    · refine CW.skip ?_
      refine CW.seq ?_
      refine CW.block ?_
      refine CW.region ?_
      refine RL.val rfl (run_move e3_2) ?_
      refine RL.val rfl (run_move e4_2) ?_
      refine RL.new rfl hH2 (f := fun b => (.slice (some ⟨b, 0, none⟩) 1 1)) (run_mkL Tryd.underlying23 rfl rfl (sz := 1) (vs := [I _]) rfl rfl (by decide) (by decide) rfl rfl) ?_
      intro b9 w7 hH8
      simp only [List.flatMap_cons, List.flatMap_nil, clI, clB, clS, clP, clL, clA, List.append_nil, List.cons_append, List.nil_append] at hH8
      refine RL.app rfl hH8 (i := 1) rfl (hH8.slBlk (i := 0) (n := 1) (sz := 1) rfl rfl (by decide)) rfl rfl Tryd.underlying23 rfl rfl (size := 1) (bytes := 8) rfl rfl rfl (by decide) (by simp [Value.oneCell']) (by have := @upto_len k; rw [← hl] at this; omega) (by have := @upto_len k; rw [← hl] at this; simp only [maxLen]; omega) ?_
      intro v10 w11 hH12
      simp only [List.set_cons_zero, List.set_cons_succ] at hH12
      refine RL.val rfl (run_assign (by conv => lhs; whnf)) ?_
      refine RL.nil ?_
      refine CW.region ?_
      refine RL.val rfl (run_move e4_2) ?_
      refine RL.val rfl (run_add rfl rfl (by omega)) ?_
      refine RL.val rfl (run_assign (v := I _) rfl) ?_
      refine RL.nil ?_
      refine ⟨(k + 1, l ++ [k], v10), ?_, ((((((((((((((fr2.u rfl).u rfl).u rfl).u rfl).u rfl).u rfl).u rfl).u rfl).u rfl).u rfl).u rfl).u rfl).u rfl).u rfl).u rfl, (Hp.conv (hH12.sub (.cons _ (List.Sublist.refl _))) (by first | rfl | simp)), rfl, (congrArg I (by first | rfl | omega)), ?_, ?_, ?_, ?_⟩
      · ((try dsimp only); omega)
      · omega
      · omega
      · omega
      · rw [hl, upto_succ h0]
    · refine CW.exit (id := 0) rfl ?_
      refine CW.seq ?_
      refine CW.region ?_
      refine RL.val rfl (run_move e3_2) ?_
      refine RL.callP rfl hH2 (c_clearanceref01_Of _ _  _ (hH2.sl (i := 0) rfl)) (run_call1 Tryd.call17 rfl) ?_
      intro w13 hH14
      refine RL.val rfl (run_assign (v := U _) rfl) ?_
      refine RL.nil ?_
      refine CW.ret ?_
      refine outP1 Tryd.results26 (congrArg U ?_) hH14.below
      exact below_eq_ofl fun i a b => by rw [hl, mem_upto]; omega
  · refine RL.gF rfl rfl (bF h4) rfl ?_
    refine RL.gF rfl rfl (bF h4) rfl ?_
    refine RL.val rfl (run_pickF (bF h4) (v := B false) rfl) ?_
    refine RL.nil ?_
    refine CW.condF rfl ?_
    refine CW.exit (id := 0) rfl ?_
    refine CW.seq ?_
    refine CW.region ?_
    refine RL.val rfl (run_move e3_2) ?_
    refine RL.callP rfl hH2 (c_clearanceref01_Of _ _  _ (hH2.sl (i := 0) rfl)) (run_call1 Tryd.call17 rfl) ?_
    intro w15 hH16
    refine RL.val rfl (run_assign (v := U _) rfl) ?_
    refine RL.nil ?_
    refine CW.ret ?_
    refine outP1 Tryd.results26 (congrArg U ?_) hH16.below
    exact below_eq_ofl fun i a b => by rw [hl, mem_upto]; omega

theorem c_bits_TrailingZeros64 (s : BitVec 64) (w : World) (hT : Tab w) : Calls Tryd.prog 27 #[U s] w (Pure (I (tz s)) w) := by
  refine enter Tryd.func27 rfl Tryd.ntmps27 rfl ?_
  have hH := Hp.start w
  refine CW.seq ?_
  refine CW.region ?_
  refine RL.val rfl (run_assign (v := I 0) rfl) ?_
  refine RL.nil ?_
  refine CW.seq ?_
  refine CW.seq ?_
  refine CW.region ?_
  refine RL.val rfl (run_move (v := U _) rfl) ?_
  refine RL.val rfl (run_eqlU rfl (b := 0#64) rfl) ?_
  refine RL.nil ?_
  refine CW.condP rfl (fun h2 => ?_) (fun h2 => ?_)
  · refine CW.seq ?_
    refine CW.region ?_
    refine RL.val rfl (run_assign (v := I 64) rfl) ?_
    refine RL.nil ?_
    refine CW.ret ?_
    refine outP1 Tryd.results27 (congrArg I ?_) hH.below
    rw [‹s = 0#64›]; rfl
  · refine CW.skip ?_
    refine CW.seq ?_
    refine CW.region ?_
    refine RL.val rfl (run_move (v := U _) rfl) ?_
    refine RL.val rfl (run_move (v := U _) rfl) ?_
    refine RL.val rfl (run_negU rfl) ?_
    refine RL.val rfl (run_andU rfl rfl) ?_
    refine RL.val rfl (run_mulU rfl (b := 285870213051353865#64) rfl) ?_
    refine RL.val rfl (run_shrU rfl (b := 58#64) rfl) ?_
    refine RL.val rfl (run_indexAddrA Tryd.underlying42 Tryd.sizeOf5 rfl rfl (by exact tz_idx _)) ?_
    refine RL.val rfl (run_ld Tryd.underlying5 rfl rfl (hT.at _)) ?_
    refine RL.val rfl (run_convUI Tryd.underlying5 Tryd.underlying3 rfl (conv_bd (tztab_bd _))) ?_
    refine RL.val rfl (run_assign (v := I _) rfl) ?_
    refine RL.nil ?_
    refine CW.ret ?_
    refine outP1 Tryd.results27 (congrArg I ?_) hH.below
    exact tz_ne ‹_›

theorem c_mask_Least (s : BitVec 64) (w : World) (hT : Tab w) : Calls Tryd.prog 13 #[U s] w (Pure (.tuple #[I (leastv s).1, B (leastv s).2]) w) := by
  refine enter Tryd.func13 rfl Tryd.ntmps13 rfl ?_
  have hH := Hp.start w
  refine CW.seq ?_
  refine CW.region ?_
  refine RL.val rfl (run_assign (v := I 0) rfl) ?_
  refine RL.val rfl (run_assign (v := B false) rfl) ?_
  refine RL.nil ?_
  refine CW.seq ?_
  refine CW.seq ?_
  refine CW.region ?_
  refine RL.val rfl (run_move (v := U _) rfl) ?_
  refine RL.val rfl (run_eqlU rfl (b := 0#64) rfl) ?_
  refine RL.nil ?_
  refine CW.condP rfl (fun h2 => ?_) (fun h2 => ?_)
  · refine CW.seq ?_
    refine CW.region ?_
    refine RL.val rfl (run_assign (v := I 0) rfl) ?_
    refine RL.val rfl (run_assign (v := B false) rfl) ?_
    refine RL.nil ?_
    refine CW.ret ?_
    refine outP2 Tryd.results13 (congrArg I ?_) (congrArg B ?_) hH.below <;> rw [leastv, if_pos ‹_›]
  · refine CW.skip ?_
    refine CW.seq ?_
    refine CW.region ?_
    refine RL.val rfl (run_move (v := U _) rfl) ?_
    refine RL.callP rfl hH (c_bits_TrailingZeros64 _  _ (hT.hp hH)) (run_call1 Tryd.call27 rfl) ?_
    intro w3 hH4
    refine RL.val rfl (run_assign (v := I _) rfl) ?_
    refine RL.val rfl (run_assign (v := B true) rfl) ?_
    refine RL.nil ?_
    refine CW.ret ?_
    refine outP2 Tryd.results13 (congrArg I ?_) (congrArg B ?_) hH4.below <;> rw [leastv, if_neg ‹_›]

theorem c_mask_Each (f : FuncId) (cap : Array Value) (Inv Stop : List Int → World → Prop) (s : BitVec 64) (w : World) (hf : ∀ args w, (callFunc f args).run Tryd.prog w = .ok (.enter f args) w) (hm : ∀ l w w', Inv l w → Below w.heap.size w w' → Inv l w') (hT : ∀ l w, Inv l w → Tab w) (go : ∀ l i r w, lst s = l ++ i :: r → Inv l w → Calls Tryd.prog f (#[I i] ++ cap) w (Ret fun u w' => ∃ c : Bool, u = B c ∧ (c = true → Inv (l ++ [i]) w') ∧ (c = false → Stop (l ++ [i]) w'))) (h0 : Inv [] w) : Calls Tryd.prog 8 #[U s, .func (.func f) #[] cap] w (Ret fun u w' => u = .tuple #[] ∧ (Inv (lst s) w' ∨ ∃ l i r, lst s = l ++ i :: r ∧ Stop (l ++ [i]) w')) := by
  refine enter Tryd.func8 rfl Tryd.ntmps8 rfl ?_
  have hH := Hp.start w
  refine CW.block ?_
  refine CW.loop (G := (BitVec 64) × (List Int)) (fun (⟨s1, l⟩ : (BitVec 64) × (List Int)) s' w' => (Fr [0, 4, 5, 6, 7, 8, 9, 10, 11, 12, 13, 14] _ s') ∧ (Inv l w') ∧ (s' 0 = U s1) ∧ (lst s = l ++ lst s1)) (fun (⟨s1, l⟩ : (BitVec 64) × (List Int)) => (lst s1).length) ((s, [])) ⟨Fr.refl _ _, h0, rfl, (by simp)⟩ ?_
  rintro ⟨s1, l⟩ sg1 w1 ⟨fr1, hH1, e0_1, hl⟩
  have hI1 := hH1
  clear hH1
  have hH1 := Hp.start w1
  have e1_1 : sg1 1 = .func _ _ _ := (fr1 1 rfl).trans rfl
  refine CW.seq ?_
  refine CW.seq ?_
  refine CW.region ?_
  refine RL.val rfl (run_move e0_1) ?_
  refine RL.val rfl (run_neqU rfl (b := 0#64) rfl) ?_
  refine RL.nil ?_
  refine CW.condP rfl (fun h3 => ?_) (fun h3 => ?_)
  · refine CW.skip ?_
    refine CW.block ?_
    refine CW.seq ?_
    refine CW.seq ?_
    refine CW.region ?_
    refine RL.val rfl (run_move e1_1) ?_
    refine RL.val rfl (run_move e0_1) ?_
    refine RL.callP rfl hH1 (c_bits_TrailingZeros64 _ _ (hT _ _ hI1)) (run_call1 Tryd.call27 rfl) ?_
    intro w4 hH5
    have hI := hm _ _ _ hI1 hH5.below
    refine RL.call rfl (run_callV1 hf rfl (v1 := I (tz s1)) rfl) (go l (tz s1) (lst (s1 &&& (s1 - 1#64))) _ (by rw [hl, lst_tz ‹_›]) hI) ?_
    rintro u8 w6 ⟨c, rfl, hJ1, hJ2⟩
    have hH7 := Hp.start w6
    refine RL.val rfl (run_not rfl) ?_
    refine RL.nil ?_
    refine CW.cond rfl (fun h11 => ?_) (fun h11 => ?_)
    · refine CW.ret ?_
      exact out0 Tryd.results8 ⟨rfl, .inr ⟨l, tz s1, lst (s1 &&& (s1 - 1#64)), by rw [hl, lst_tz ‹_›], hJ2 (by simpa using ‹(!c) = true›)⟩⟩
    · refine CW.skip ?_
      refine CW.region ?_
      refine RL.val rfl (run_move e0_1) ?_
      refine RL.val rfl (run_move e0_1) ?_
      refine RL.val rfl (run_subU rfl (b := 1#64) rfl) ?_
      refine RL.val rfl (run_andU rfl rfl) ?_
      refine RL.val rfl (run_assign (v := U _) rfl) ?_
      refine RL.nil ?_
      refine ⟨(s1 &&& (s1 - 1#64), l ++ [tz s1]), ?_, (((((((((((fr1.u rfl).u rfl).u rfl).u rfl).u rfl).u rfl).u rfl).u rfl).u rfl).u rfl).u rfl).u rfl, (hJ1 (by simpa using ‹(!c) = false›)), rfl, ?_⟩
      · exact lst_clear_lt ‹_›
      · rw [hl, lst_tz ‹_›]; simp
  · refine CW.exit (id := 0) rfl ?_
    have hn : lst s1 = [] := lst_eq_nil.2 (by simpa using ‹¬ s1 ≠ 0#64›)
    exact out0 Tryd.results8 ⟨rfl, .inl (by rw [hl, hn, List.append_nil]; assumption)⟩

theorem c_mask_List_1 (W0 : World) (b : Nat) (v : Value) (l : List Int) (i : Int) (w : World) (hH : Hp W0 w [.row v 3 1 l.length (l.map I), .blk b (.cells #[v] 23 (0, 0))]) (hlen : l.length ≤ 64) : Calls Tryd.prog 29 #[I i, .pointer (some ⟨b, 0, none⟩)] w (Ret fun u w' => u = B true ∧ ∃ v', Hp W0 w' [.row v' 3 1 (l ++ [i]).length ((l ++ [i]).map I), .blk b (.cells #[v'] 23 (0, 0))]) := by
  refine enter Tryd.func29 rfl Tryd.ntmps29 rfl ?_
  refine CW.seq ?_
  refine CW.region ?_
  refine RL.val rfl (run_assign (v := B false) rfl) ?_
  refine RL.nil ?_
  refine CW.seq ?_
  refine CW.region ?_
  refine RL.val rfl (run_ld Tryd.underlying23 rfl rfl (hH.cell (i := 1) rfl rfl)) ?_
  refine RL.val rfl (run_move (v := I _) rfl) ?_
  refine RL.new rfl hH (f := fun b => (.slice (some ⟨b, 0, none⟩) 1 1)) (run_mkL Tryd.underlying23 rfl rfl (sz := 1) (vs := [I _]) rfl rfl (by decide) (by decide) rfl rfl) ?_
  intro b3 w1 hH2
  simp only [List.flatMap_cons, List.flatMap_nil, clI, clB, clS, clP, clL, clA, List.append_nil, List.cons_append, List.nil_append] at hH2
  refine RL.app rfl hH2 (i := 1) rfl (hH2.slBlk (i := 0) (n := 1) (sz := 1) rfl rfl (by decide)) rfl rfl Tryd.underlying23 rfl rfl (size := 1) (bytes := 8) rfl rfl rfl (by decide) (by simp [Value.oneCell']) (by omega) (by simp only [maxLen]; omega) ?_
  intro v4 w5 hH6
  simp only [List.set_cons_zero, List.set_cons_succ] at hH6
  refine RL.set hH6 (i := 2) rfl (run_st rfl rfl (by conv => lhs; whnf) (row_cells (hH6.get (i := 1) rfl)).1 (row_cells (hH6.get (i := 1) rfl)).2 (hH6.blk (i := 2) rfl) (by first | decide | simp)) ?_
  intro w7 hH8
  simp only [List.set_cons_zero, List.set_cons_succ] at hH8
  refine RL.nil ?_
  refine CW.seq ?_
  refine CW.region ?_
  refine RL.val rfl (run_assign (v := B true) rfl) ?_
  refine RL.nil ?_
  refine CW.ret ?_
  exact out1 Tryd.results29 rfl ⟨rfl, (v4 : Value), Hp.conv hH8.tail (by simp)⟩

theorem c_mask_List (s : BitVec 64) (w : World) (hT : Tab w) : Calls Tryd.prog 15 #[U s] w (PureRow 3 1 (lst s).length ((lst s).map I) w) := by
  refine enter Tryd.func15 rfl Tryd.ntmps15 rfl ?_
  have hH := Hp.start w
  refine CW.seq ?_
  refine CW.region ?_
  refine RL.val rfl (run_assign (v := .slice none 0 0) rfl) ?_
  refine RL.nil ?_
  refine CW.seq ?_
  refine CW.region ?_
  refine RL.new rfl hH (f := fun b => (.pointer (some ⟨b, 0, none⟩))) (run_alloc Tryd.zeroValue23) ?_
  intro b3 w1 hH2
  have hH4 := hH2.nilRow 3 1
  refine RL.nil ?_
  refine CW.seq ?_
  refine CW.region ?_
  refine RL.val rfl (run_move (v := U _) rfl) ?_
  refine RL.val rfl (run_mkF1 (by conv => lhs; whnf)) ?_
  refine RL.call rfl (run_call2 Tryd.call8 (v1 := U s) rfl (v2 := .func (.func 29) #[] #[.pointer (some ⟨b3, 0, none⟩)]) rfl) (c_mask_Each 29 _ (fun l w' => ∃ v, Hp w w' [.row v 3 1 l.length (l.map I), .blk b3 (.cells #[v] 23 (0, 0))]) (fun _ _ => False) s _ Tryd.call29 (fun l w' w'' h hb => h.imp fun v h => h.call hb) (fun l w' h => h.elim fun v h => hT.hp h) (fun l i r w' he h => h.elim fun v h => by
      have hl64 : l.length ≤ 64 := by have := lst_len s; rw [he] at this; simp at this; omega
      have hc := c_mask_List_1 w b3 v l i w' h hl64
      refine Ret.calls hc ?_
      intro u w2 hq
      exact ⟨true, hq.1, fun _ => hq.2, fun h => by cases h⟩) ⟨.slice none 0 0, hH4⟩) ?_
  rintro u w5 ⟨rfl, hor⟩
  obtain ⟨v7, hH6⟩ := hor.resolve_right (fun ⟨_, _, _, _, h⟩ => h)
  refine RL.nil ?_
  refine CW.seq ?_
  refine CW.region ?_
  refine RL.val rfl (run_ld Tryd.underlying23 rfl rfl (hH6.cell (i := 1) rfl rfl)) ?_
  refine RL.val rfl (run_assign (by conv => lhs; whnf)) ?_
  refine RL.nil ?_
  refine CW.ret ?_
  exact outR Tryd.results15 rfl hH6 (i := 0) rfl (rfl) (rfl)

theorem c_mask_Nth_1 (W0 : World) (bk bn bf : Nat) (k i : Int) (w : World) (hH : Hp W0 w [.blk bf (.cells #[B false] 4 (0, 0)), .blk bn (.cells #[I 0] 3 (0, 0)), .blk bk (.cells #[I k] 3 (0, 0))]) : Calls Tryd.prog 28 #[I i, .pointer (some ⟨bk, 0, none⟩), .pointer (some ⟨bn, 0, none⟩), .pointer (some ⟨bf, 0, none⟩)] w (Ret fun u w' => (k = 0 → u = B false ∧ Hp W0 w' [.blk bf (.cells #[B true] 4 (0, 0)), .blk bn (.cells #[I i] 3 (0, 0)), .blk bk (.cells #[I k] 3 (0, 0))]) ∧ (k ≠ 0 → u = B (decide (0 ≤ IntKind.i64.wrap (k - 1))) ∧ Hp W0 w' [.blk bf (.cells #[B false] 4 (0, 0)), .blk bn (.cells #[I 0] 3 (0, 0)), .blk bk (.cells #[I (IntKind.i64.wrap (k - 1))] 3 (0, 0))])) := by
  refine enter Tryd.func28 rfl Tryd.ntmps28 rfl ?_
  refine CW.seq ?_
  refine CW.region ?_
  refine RL.val rfl (run_assign (v := B false) rfl) ?_
  refine RL.nil ?_
  refine CW.seq ?_
  refine CW.seq ?_
  refine CW.region ?_
  refine RL.val rfl (run_ld Tryd.underlying3 rfl rfl (hH.cell (i := 2) rfl (v := I _) rfl)) ?_
  refine RL.val rfl (run_eql rfl rfl) ?_
  refine RL.nil ?_
  refine CW.condP rfl (fun h2 => ?_) (fun h2 => ?_)
  · refine CW.seq ?_
    refine CW.region ?_
    refine RL.val rfl (run_move (v := I _) rfl) ?_
    refine RL.set hH (i := 1) rfl (run_st rfl rfl (v := I _) rfl rfl rfl (hH.blk (i := 1) rfl) (by first | decide | simp)) ?_
    intro w3 hH4
    simp only [List.set_cons_zero, List.set_cons_succ] at hH4
    refine RL.set hH4 (i := 0) rfl (run_st rfl rfl (v := B true) rfl rfl rfl (hH4.blk (i := 0) rfl) (by first | decide | simp)) ?_
    intro w5 hH6
    simp only [List.set_cons_zero, List.set_cons_succ] at hH6
    refine RL.nil ?_
    refine CW.seq ?_
    refine CW.region ?_
    refine RL.val rfl (run_assign (v := B false) rfl) ?_
    refine RL.nil ?_
    refine CW.ret ?_
    exact out1 Tryd.results28 rfl ⟨fun _ => ⟨rfl, hH6⟩, fun h => absurd ‹k = 0› h⟩
  · refine CW.skip ?_
    refine CW.seq ?_
    refine CW.region ?_
    refine RL.val rfl (run_ld Tryd.underlying3 rfl rfl (hH.cell (i := 2) rfl (v := I _) rfl)) ?_
    refine RL.val rfl (run_subW rfl rfl) ?_
    refine RL.set hH (i := 2) rfl (run_st rfl rfl (v := I _) rfl rfl rfl (hH.blk (i := 2) rfl) (by first | decide | simp)) ?_
    intro w7 hH8
    simp only [List.set_cons_zero, List.set_cons_succ] at hH8
    refine RL.nil ?_
    refine CW.seq ?_
    refine CW.region ?_
    refine RL.val rfl (run_ld Tryd.underlying3 rfl rfl (hH8.cell (i := 2) rfl (v := I _) rfl)) ?_
    refine RL.val rfl (run_geq rfl rfl) ?_
    refine RL.val rfl (run_assign (v := B _) rfl) ?_
    refine RL.nil ?_
    refine CW.ret ?_
    exact out1 Tryd.results28 rfl ⟨fun h => absurd h ‹¬ k = 0›, fun _ => ⟨rfl, hH8⟩⟩

theorem c_mask_Nth (s : BitVec 64) (k : Int) (hb : -9223372036854775808 ≤ k ∧ k ≤ 9223372036854775807) (w : World) (hT : Tab w) : Calls Tryd.prog 14 #[U s, I k] w (Pure (.tuple #[I (nthv s k).1, B (nthv s k).2]) w) := by
  refine enter Tryd.func14 rfl Tryd.ntmps14 rfl ?_
  have hH := Hp.start w
  refine CW.seq ?_
  refine CW.region ?_
  refine RL.new rfl hH (f := fun b => (.pointer (some ⟨b, 0, none⟩))) (run_box (v := I _) rfl) ?_
  intro b3 w1 hH2
  refine RL.val rfl (run_assign (v := I 0) rfl) ?_
  refine RL.val rfl (run_assign (v := B false) rfl) ?_
  refine RL.nil ?_
  refine CW.seq ?_
  refine CW.region ?_
  refine RL.new rfl hH2 (f := fun b => (.pointer (some ⟨b, 0, none⟩))) (run_alloc Tryd.zeroValue3) ?_
  intro b6 w4 hH5
  refine RL.new rfl hH5 (f := fun b => (.pointer (some ⟨b, 0, none⟩))) (run_alloc Tryd.zeroValue4) ?_
  intro b9 w7 hH8
  refine RL.set hH8 (i := 1) rfl (run_st rfl rfl (v := I 0) rfl rfl rfl (hH8.blk (i := 1) rfl) (by first | decide | simp)) ?_
  intro w10 hH11
  simp only [List.set_cons_zero, List.set_cons_succ] at hH11
  refine RL.set hH11 (i := 0) rfl (run_st rfl rfl (v := B false) rfl rfl rfl (hH11.blk (i := 0) rfl) (by first | decide | simp)) ?_
  intro w12 hH13
  simp only [List.set_cons_zero, List.set_cons_succ] at hH13
  refine RL.nil ?_
  refine CW.seq ?_
  refine CW.region ?_
  refine RL.val rfl (run_move (v := U _) rfl) ?_
  refine RL.val rfl (run_mkF3 (by conv => lhs; whnf) (by conv => lhs; whnf) (by conv => lhs; whnf)) ?_
  refine RL.call rfl (run_call2 Tryd.call8 (v1 := U s) rfl (v2 := .func (.func 28) #[] #[.pointer (some ⟨b3, 0, none⟩), .pointer (some ⟨b6, 0, none⟩), .pointer (some ⟨b9, 0, none⟩)]) rfl) (c_mask_Each 28 _ (fun l w' => Hp w w' [.blk b9 (.cells #[B false] 4 (0, 0)), .blk b6 (.cells #[I 0] 3 (0, 0)), .blk b3 (.cells #[I (kAt k l.length)] 3 (0, 0))] ∧ (l.length = 0 ∨ 0 ≤ kAt k l.length)) (fun L w' => ∃ (c n : Int) (f : Bool), Hp w w' [.blk b9 (.cells #[B f] 4 (0, 0)), .blk b6 (.cells #[I n] 3 (0, 0)), .blk b3 (.cells #[I c] 3 (0, 0))] ∧ ∀ r, lst s = L ++ r → nthv s k = (n, f)) s _ Tryd.call28 (fun l w' w'' h hb => ⟨h.1.call hb, h.2⟩) (fun l w' h => hT.hp h.1) (fun l i r w' he h => by
      have hl64 : l.length ≤ 64 := by have := lst_len s; rw [he] at this; simp at this; omega
      have hc := c_mask_Nth_1 w b3 b6 b9 _ i w' h.1
      refine Ret.calls hc ?_
      intro u w2 hq
      by_cases hk : kAt k l.length = 0
      · exact ⟨false, (hq.1 hk).1, (fun h => by cases h), fun _ => ⟨_, _, _, (hq.1 hk).2, fun r2 hr => nth_found hb (l := l) (i := i) (r := r2) (by simpa using hr) hk⟩⟩
      · have hq2 := hq.2 hk
        rw [kAt_wrap hb hl64] at hq2
        refine ⟨_, hq2.1, fun hc => ⟨by simpa using hq2.2, .inr (by simpa using hc)⟩, fun hc => ⟨_, _, _, hq2.2, fun r2 hr => nth_neg (kAt_neg hb hl64 h.2 hk (by simpa using hc))⟩⟩) ⟨by rw [show kAt k ([] : List Int).length = k from kAt_zero hb.1]; exact hH13, .inl rfl⟩) ?_
  rintro u w14 ⟨rfl, hor⟩
  obtain ⟨c, n, f, hH15, hnf⟩ : ∃ (c n : Int) (f : Bool), Hp w w14 [.blk b9 (.cells #[B f] 4 (0, 0)), .blk b6 (.cells #[I n] 3 (0, 0)), .blk b3 (.cells #[I c] 3 (0, 0))] ∧ nthv s k = (n, f) := by
    rcases hor with h | ⟨l, i, r, he, c, n, f, h, hf⟩
    · exact ⟨_, _, _, h.1, nth_none hb h.2⟩
    · exact ⟨c, n, f, h, hf r (by rw [he]; simp)⟩
  refine RL.nil ?_
  refine CW.seq ?_
  refine CW.regionD (by kernel_rfl) hH15 ?_
  intro w16 hH17
  refine AN.take 0 rfl rfl (by kernel_rfl) (by kernel_rfl) (by kernel_rfl) (hH17.sub (List.Sublist.refl _)) (fun w hS => run_ld Tryd.underlying3 rfl rfl (hS.cell (i := 1) rfl (v := I _) rfl)) ?_
  refine AN.take 1 rfl rfl (by kernel_rfl) (by kernel_rfl) (by kernel_rfl) (hH17.sub (List.Sublist.refl _)) (fun w hS => run_ld Tryd.underlying4 rfl rfl (hS.cell (i := 0) rfl (v := B _) rfl)) ?_
  refine AN.take 2 rfl rfl (by kernel_rfl) (by kernel_rfl) (by kernel_rfl) (hH17.sub (List.Sublist.refl _)) (fun w hS => run_assign (v := I _) rfl) ?_
  refine AN.take 3 rfl rfl (by kernel_rfl) (by kernel_rfl) (by kernel_rfl) (hH17.sub (List.Sublist.refl _)) (fun w hS => run_assign (v := B _) rfl) ?_
  refine AN.done (by kernel_rfl) ?_
  refine CW.ret ?_
  refine outP2 Tryd.results14 (congrArg I ?_) (congrArg B ?_) hH17.below <;> rw [hnf]

theorem c_clearanceref01_Ints (va vb : Value) (a b : List Int) (w : World) (ha : Sl w va 1 a.length (a.map I)) (hb : Sl w vb 1 b.length (b.map I)) : Calls Tryd.prog 11 #[va, vb] w (Pure (B (decide (a = b))) w) := by
  have hma := ha.small
  have hmb := hb.small
  unfold maxLen at hma hmb
  refine enter Tryd.func11 rfl Tryd.ntmps11 rfl ?_
  have hH := Hp.start w
  refine CW.seq ?_
  refine CW.region ?_
  refine RL.val rfl (run_assign (v := B false) rfl) ?_
  refine RL.nil ?_
  refine CW.seq ?_
  refine CW.seq ?_
  refine CW.region ?_
  refine RL.val rfl (run_move (by conv => lhs; whnf)) ?_
  refine RL.val rfl (run_lenSl (ha.hp hH) rfl Tryd.underlying23 rfl) ?_
  refine RL.val rfl (run_move (by conv => lhs; whnf)) ?_
  refine RL.val rfl (run_lenSl (hb.hp hH) rfl Tryd.underlying23 rfl) ?_
  refine RL.val rfl (run_neq rfl rfl) ?_
  refine RL.nil ?_
  refine CW.condP rfl (fun h2 => ?_) (fun h2 => ?_)
  · refine CW.seq ?_
    refine CW.region ?_
    refine RL.val rfl (run_assign (v := B false) rfl) ?_
    refine RL.nil ?_
    refine CW.ret ?_
    refine outP1 Tryd.results11 (congrArg B ?_) hH.below
    (exact (decide_eq_false fun h => absurd (congrArg (fun z : List Int => (z.length : Int)) h) ‹(a.length : Int) ≠ b.length›).symm)
  · refine CW.skip ?_
    refine CW.seq ?_
    refine CW.seq ?_
    refine CW.region ?_
    refine RL.val rfl (run_assign (v := I 0) rfl) ?_
    refine RL.nil ?_
    refine CW.block ?_
    have hab : a.length = b.length := by omega
    refine CW.loop (G := (Int)) (fun (k : Int) s' w' => (Fr [4, 5, 11, 12, 13, 14, 15, 16, 17, 18, 19, 20, 21, 22, 23, 24, 25] _ s') ∧ (Hp w w' _) ∧ (s' 5 = I k) ∧ (0 ≤ k) ∧ (k ≤ a.length) ∧ (∀ j : Int, 0 ≤ j → j < k → a.getD j.toNat 0 = b.getD j.toNat 0)) (fun (k : Int) => (a.length - k).toNat) (0) ⟨Fr.refl _ _, hH, rfl, (by omega), (by omega), fun j a b => absurd b (by omega)⟩ ?_
    rintro k sg3 w3 ⟨fr3, hH3, e5_3, h0, hk, hf⟩
    have e0_3 := (fr3 0 rfl).trans (by conv => lhs; whnf)
    have e1_3 := (fr3 1 rfl).trans (by conv => lhs; whnf)
    refine CW.seq ?_
    refine CW.seq ?_
    refine CW.region ?_
    refine RL.val rfl (run_move e5_3) ?_
    refine RL.val rfl (run_move e0_3) ?_
    refine RL.val rfl (run_lenSl (ha.hp hH3) rfl Tryd.underlying23 rfl) ?_
    refine RL.val rfl (run_lss rfl rfl) ?_
    refine RL.nil ?_
    refine CW.condP rfl (fun h5 => ?_) (fun h5 => ?_)
    · refine CW.skip ?_
      refine CW.seq ?_
      refine CW.block ?_
      refine CW.seq ?_
      refine CW.regionD (by kernel_rfl) hH3 ?_
      intro w6 hH7
      refine AN.take 0 rfl rfl (by kernel_rfl) (by kernel_rfl) (by kernel_rfl) (hH7.sub (List.Sublist.refl _)) (fun w hS => run_move e0_3) ?_
      refine AN.take 1 rfl rfl (by kernel_rfl) (by kernel_rfl) (by kernel_rfl) (hH7.sub (List.Sublist.refl _)) (fun w hS => run_move e5_3) ?_
      refine AN.take 2 rfl rfl (by kernel_rfl) (by kernel_rfl) (by kernel_rfl) (hH7.sub (List.Sublist.refl _)) (fun w hS => run_indexAddrS (ha.hp hS) Tryd.underlying23 Tryd.sizeOf3 rfl rfl (by omega)) ?_
      refine AN.take 3 rfl rfl (by kernel_rfl) (by kernel_rfl) (by kernel_rfl) (hH7.sub (List.Sublist.refl _)) (fun w hS => run_ld Tryd.underlying3 rfl rfl ((ha.hp hS).cell _ _ (map_at (by omega)))) ?_
      refine AN.take 4 rfl rfl (by kernel_rfl) (by kernel_rfl) (by kernel_rfl) (hH7.sub (List.Sublist.refl _)) (fun w hS => run_move e1_3) ?_
      refine AN.take 5 rfl rfl (by kernel_rfl) (by kernel_rfl) (by kernel_rfl) (hH7.sub (List.Sublist.refl _)) (fun w hS => run_move e5_3) ?_
      refine AN.take 6 rfl rfl (by kernel_rfl) (by kernel_rfl) (by kernel_rfl) (hH7.sub (List.Sublist.refl _)) (fun w hS => run_indexAddrS (hb.hp hS) Tryd.underlying23 Tryd.sizeOf3 rfl rfl (by omega)) ?_
      refine AN.take 7 rfl rfl (by kernel_rfl) (by kernel_rfl) (by kernel_rfl) (hH7.sub (List.Sublist.refl _)) (fun w hS => run_ld Tryd.underlying3 rfl rfl ((hb.hp hS).cell _ _ (map_at (by omega)))) ?_
      refine AN.take 8 rfl rfl (by kernel_rfl) (by kernel_rfl) (by kernel_rfl) (hH7.sub (List.Sublist.refl _)) (fun w hS => run_neq rfl rfl) ?_
      refine AN.done (by kernel_rfl) ?_
      refine CW.condP rfl (fun h9 => ?_) (fun h9 => ?_)
      · refine CW.seq ?_
        refine CW.region ?_
        refine RL.val rfl (run_assign (v := B false) rfl) ?_
        refine RL.nil ?_
        refine CW.ret ?_
        refine outP1 Tryd.results11 (congrArg B ?_) hH7.below
        (exact (decide_eq_false fun h => absurd (congrArg (fun z : List Int => z.getD k.toNat 0) h) ‹a.getD k.toNat 0 ≠ b.getD k.toNat 0›).symm)
      · refine CW.skip ?_
        refine CW.region ?_
        refine RL.val rfl (run_move e5_3) ?_
        refine RL.val rfl (run_add rfl rfl (by omega)) ?_
        refine RL.val rfl (run_assign (v := I _) rfl) ?_
        refine RL.nil ?_
        refine ⟨k + 1, ?_, (((((((((((((((fr3.u rfl).u rfl).u rfl).u rfl).u rfl).u rfl).u rfl).u rfl).u rfl).u rfl).u rfl).u rfl).u rfl).u rfl).u rfl).u rfl, hH7, (congrArg I (by first | rfl | omega)), ?_, ?_, ?_⟩
        · ((try dsimp only); omega)
        · omega
        · omega
        · exact fun j x y => if e : j = k then e ▸ Decidable.of_not_not ‹¬ ¬ a.getD k.toNat 0 = b.getD k.toNat 0› else hf j x (by omega)
    · refine CW.exit (id := 0) rfl ?_
      refine CW.seq ?_
      refine CW.region ?_
      refine RL.val rfl (run_assign (v := B true) rfl) ?_
      refine RL.nil ?_
      refine CW.ret ?_
      refine outP1 Tryd.results11 (congrArg B ?_) hH3.below
      (exact (decide_eq_true (ext_getD hab fun j x y => hf j x (by omega))).symm)

theorem c_clearanceref01_Sub (a b : BitVec 64) (w : World) : Calls Tryd.prog 22 #[U a, U b] w (Pure (B (subB a b)) w) := by
  have hl := lst_len a
  refine enter Tryd.func22 rfl Tryd.ntmps22 rfl ?_
  have hH := Hp.start w
  refine CW.seq ?_
  refine CW.region ?_
  refine RL.val rfl (run_assign (v := B false) rfl) ?_
  refine RL.nil ?_
  refine CW.seq ?_
  refine CW.region ?_
  refine RL.val rfl (run_move (v := U _) rfl) ?_
  refine RL.callR rfl hH (c_clearanceref01_List _  _) (run_call1 Tryd.call10 rfl) ?_
  intro v3 w1 hH2
  refine RL.val rfl (run_assign (by conv => lhs; whnf)) ?_
  refine RL.nil ?_
  refine CW.seq ?_
  refine CW.seq ?_
  refine CW.region ?_
  refine RL.val rfl (run_assign (v := I 0) rfl) ?_
  refine RL.nil ?_
  refine CW.block ?_
  refine CW.loop (G := (Int)) (fun (k : Int) s' w' => (Fr [4, 6, 9, 10, 11, 12, 13, 14, 15, 16, 17, 18, 19, 20, 21] _ s') ∧ (Hp w w' _) ∧ (s' 6 = I k) ∧ (0 ≤ k) ∧ (k ≤ (lst a).length) ∧ (∀ j : Int, 0 ≤ j → j < k → hasB b ((lst a).getD j.toNat 0) = true)) (fun (k : Int) => ((lst a).length - k).toNat) (0) ⟨Fr.refl _ _, hH2, rfl, (by omega), (by omega), fun j a b => absurd b (by omega)⟩ ?_
  rintro k sg4 w4 ⟨fr4, hH4, e6_4, h0, hk, hf⟩
  have e1_4 : sg4 1 = U _ := (fr4 1 rfl).trans rfl
  have e5_4 := (fr4 5 rfl).trans (by conv => lhs; whnf)
  refine CW.seq ?_
  refine CW.seq ?_
  refine CW.region ?_
  refine RL.val rfl (run_move e6_4) ?_
  refine RL.val rfl (run_move e5_4) ?_
  refine RL.val rfl (run_lenSl (hH4.sl (i := 0) rfl) rfl Tryd.underlying23 rfl) ?_
  refine RL.val rfl (run_lss rfl rfl) ?_
  refine RL.nil ?_
  refine CW.condP rfl (fun h6 => ?_) (fun h6 => ?_)
  · refine CW.skip ?_
    refine CW.seq ?_
    refine CW.block ?_
    refine CW.seq ?_
    refine CW.region ?_
    refine RL.val rfl (run_move e1_4) ?_
    refine RL.val rfl (run_move e5_4) ?_
    refine RL.val rfl (run_move e6_4) ?_
    refine RL.val rfl (run_indexAddrS (hH4.sl (i := 0) rfl) Tryd.underlying23 Tryd.sizeOf3 rfl rfl (by omega)) ?_
    refine RL.val rfl (run_ld Tryd.underlying3 rfl rfl ((hH4.sl (i := 0) rfl).cell _ _ (map_at (by omega)))) ?_
    refine RL.callP rfl hH4 (c_clearanceref01_Has _ _  _) (run_call2 Tryd.call19 rfl rfl) ?_
    intro w7 hH8
    refine RL.val rfl (run_not rfl) ?_
    refine RL.nil ?_
    refine CW.cond rfl (fun h11 => ?_) (fun h11 => ?_)
    · refine CW.seq ?_
      refine CW.region ?_
      refine RL.val rfl (run_assign (v := B false) rfl) ?_
      refine RL.nil ?_
      refine CW.ret ?_
      refine outP1 Tryd.results22 (congrArg B ?_) hH8.below
      (exact (subB_no h0 ‹_› ‹_›).symm)
    · refine CW.skip ?_
      refine CW.region ?_
      refine RL.val rfl (run_move e6_4) ?_
      refine RL.val rfl (run_add rfl rfl (by omega)) ?_
      refine RL.val rfl (run_assign (v := I _) rfl) ?_
      refine RL.nil ?_
      refine ⟨k + 1, ?_, (((((((((((((fr4.u rfl).u rfl).u rfl).u rfl).u rfl).u rfl).u rfl).u rfl).u rfl).u rfl).u rfl).u rfl).u rfl).u rfl, hH8, (congrArg I (by first | rfl | omega)), ?_, ?_, ?_⟩
      · ((try dsimp only); omega)
      · omega
      · omega
      · exact fun j x y => if e : j = k then e ▸ (by simpa using ‹(!hasB b ((lst a).getD k.toNat 0)) = false›) else hf j x (by omega)
  · refine CW.exit (id := 0) rfl ?_
    refine CW.seq ?_
    refine CW.region ?_
    refine RL.val rfl (run_assign (v := B true) rfl) ?_
    refine RL.nil ?_
    refine CW.ret ?_
    refine outP1 Tryd.results22 (congrArg B ?_) hH4.below
    (exact (subB_yes fun j x y => hf j x (by omega)).symm)

theorem c_clearancelaw01_alive  (w : World) (hT : Tab w) : Calls Tryd.prog 12 #[] w (Pure (B true) w) := by
  refine enter Tryd.func12 rfl Tryd.ntmps12 rfl ?_
  have hH := Hp.start w
  refine CW.seq ?_
  refine CW.region ?_
  refine RL.val rfl (run_assign (v := B false) rfl) ?_
  refine RL.nil ?_
  refine CW.seq ?_
  refine CW.region ?_
  refine RL.new rfl hH (f := fun b => (.slice (some ⟨b, 0, none⟩) 3 3)) (run_mkL Tryd.underlying23 rfl rfl (sz := 1) (vs := [I 3, I 0, I 70]) rfl rfl (by decide) (by decide) rfl rfl) ?_
  intro b3 w1 hH2
  simp only [List.flatMap_cons, List.flatMap_nil, clI, clB, clS, clP, clL, clA, List.append_nil, List.cons_append, List.nil_append] at hH2
  refine RL.callP rfl hH2 (c_mask_Of _ [3, 0, 70] _ (hH2.slBlk (i := 0) (n := 3) (sz := 1) rfl rfl (by decide))) (run_call1 Tryd.call16 rfl) ?_
  intro w4 hH5
  refine RL.val rfl (run_assign (v := U _) rfl) ?_
  refine RL.nil ?_
  refine CW.seq ?_
  refine CW.region ?_
  refine RL.val rfl (run_move (v := U _) rfl) ?_
  refine RL.callP rfl hH5 (c_mask_Nth _ _ (by first | decide | assumption | omega) _ (hT.hp hH5)) (run_call2 Tryd.call14 rfl (show _ = I 1 from rfl)) ?_
  intro w6 hH7
  refine RL.val rfl (run_move (by conv => lhs; whnf)) ?_
  refine RL.val rfl (run_extract rfl (v := I _) rfl) ?_
  refine RL.val rfl (run_extract rfl (v := B _) rfl) ?_
  refine RL.val rfl (run_assign (v := I _) rfl) ?_
  refine RL.val rfl (run_assign (v := B _) rfl) ?_
  refine RL.nil ?_
  refine CW.seq ?_
  refine CW.region ?_
  refine RL.val rfl (run_move (v := U _) rfl) ?_
  refine RL.val rfl (run_eqlU rfl (b := 9#64) rfl) ?_
  refine RL.val rfl (run_move (v := B _) rfl) ?_
  refine RL.gT rfl (bT (by decide +kernel)) ?_
  refine RL.val rfl (run_move (v := U _) rfl) ?_
  refine RL.gT rfl (bT (by decide +kernel)) ?_
  refine RL.callR rfl hH7 (c_mask_List _  _ (hT.hp hH7)) (run_call1 Tryd.call15 rfl) ?_
  intro v12 w10 hH11
  refine RL.gT rfl (bT (by decide +kernel)) ?_
  refine RL.new rfl hH11 (f := fun b => (.slice (some ⟨b, 0, none⟩) 2 2)) (run_mkL Tryd.underlying23 rfl rfl (sz := 1) (vs := [I 0, I 3]) rfl rfl (by decide) (by decide) rfl rfl) ?_
  intro b15 w13 hH14
  simp only [List.flatMap_cons, List.flatMap_nil, clI, clB, clS, clP, clL, clA, List.append_nil, List.cons_append, List.nil_append] at hH14
  refine RL.gT rfl (bT (by decide +kernel)) ?_
  refine RL.callP rfl hH14 (c_clearanceref01_Ints _ _ (lst (ofl [3, 0, 70])) [0, 3] _ (hH14.sl (i := 1) rfl) (hH14.slBlk (i := 0) (n := 2) (sz := 1) rfl rfl (by decide))) (run_call2 Tryd.call11 rfl rfl) ?_
  intro w16 hH17
  refine RL.val rfl (run_pickT (bT (by decide +kernel)) (v := B _) rfl) ?_
  refine RL.val rfl (run_move (v := B _) rfl) ?_
  refine RL.gT rfl (bT (by decide +kernel)) ?_
  refine RL.val rfl (run_move (v := B _) rfl) ?_
  refine RL.val rfl (run_pickT (bT (by decide +kernel)) (v := B _) rfl) ?_
  refine RL.val rfl (run_move (v := B _) rfl) ?_
  refine RL.gT rfl (bR (c := true) (by decide +kernel)) ?_
  refine RL.val rfl (run_move (v := I _) rfl) ?_
  refine RL.gT rfl (bR (c := true) (by decide +kernel)) ?_
  refine RL.val rfl (run_eql rfl rfl) ?_
  refine RL.val rfl (run_pickT (bR (c := true) (by decide +kernel)) (v := B _) rfl) ?_
  refine RL.val rfl (run_move (v := B _) rfl) ?_
  refine RL.gT rfl (bT (by decide +kernel)) ?_
  refine RL.callP rfl hH17 (c_mask_Below _  _) (run_call1 Tryd.call25 (show _ = I 2 from rfl)) ?_
  intro w21 hH22
  refine RL.gT rfl (bT (by decide +kernel)) ?_
  refine RL.val rfl (run_eqlU rfl (b := 3#64) rfl) ?_
  refine RL.val rfl (run_pickT (bT (by decide +kernel)) (v := B _) rfl) ?_
  refine RL.val rfl (run_assign (v := B _) rfl) ?_
  refine RL.nil ?_
  refine CW.ret ?_
  refine outP1 Tryd.results12 (congrArg B ?_) hH22.below
  rfl

theorem c_clearancelaw01_MaskCounts (a b : BitVec 64) (n : Int) (w : World) (hT : Tab w) : Calls Tryd.prog 6 #[U a, U b, I n] w (Pure (B true) w) := by
  have hl := lst_len a
  refine enter Tryd.func6 rfl Tryd.ntmps6 rfl ?_
  have hH := Hp.start w
  refine CW.seq ?_
  refine CW.region ?_
  refine RL.val rfl (run_assign (v := B false) rfl) ?_
  refine RL.nil ?_
  refine CW.seq ?_
  refine CW.region ?_
  refine RL.val rfl (run_move (v := U _) rfl) ?_
  refine RL.val rfl (run_move (v := U _) rfl) ?_
  refine RL.callP rfl hH (c_mask_Sub _ _  _) (run_call2 Tryd.call23 rfl rfl) ?_
  intro w1 hH2
  refine RL.val rfl (run_move (v := U _) rfl) ?_
  refine RL.val rfl (run_move (v := U _) rfl) ?_
  refine RL.callP rfl hH2 (c_clearanceref01_Sub _ _  _) (run_call2 Tryd.call22 rfl rfl) ?_
  intro w4 hH5
  refine RL.val rfl (run_eqlB Tryd.underlying4 rfl rfl) ?_
  refine RL.val rfl (run_move (v := B _) rfl) ?_
  refine RL.gT rfl (bR (c := true) (beq_self_eq_true _)) ?_
  refine RL.val rfl (run_move (v := U _) rfl) ?_
  refine RL.gT rfl (bR (c := true) (beq_self_eq_true _)) ?_
  refine RL.callP rfl hH5 (c_mask_Count _  _) (run_call1 Tryd.call24 rfl) ?_
  intro w8 hH9
  refine RL.gT rfl (bR (c := true) (beq_self_eq_true _)) ?_
  refine RL.val rfl (run_move (v := U _) rfl) ?_
  refine RL.gT rfl (bR (c := true) (beq_self_eq_true _)) ?_
  refine RL.callR rfl hH9 (c_clearanceref01_List _  _) (run_call1 Tryd.call10 rfl) ?_
  intro v12 w10 hH11
  refine RL.gT rfl (bR (c := true) (beq_self_eq_true _)) ?_
  refine RL.val rfl (run_lenSl (hH11.sl (i := 0) rfl) rfl Tryd.underlying23 rfl) ?_
  refine RL.gT rfl (bR (c := true) (beq_self_eq_true _)) ?_
  refine RL.val rfl (run_eql rfl rfl) ?_
  refine RL.val rfl (run_pickT (bR (c := true) (beq_self_eq_true _)) (v := B _) rfl) ?_
  refine RL.val rfl (run_move (v := B _) rfl) ?_
  refine RL.gT rfl (bT (pop_eq a)) ?_
  refine RL.val rfl (run_move (v := I _) rfl) ?_
  refine RL.gT rfl (bT (pop_eq a)) ?_
  refine RL.callP rfl hH11 (c_mask_Below _  _) (run_call1 Tryd.call25 rfl) ?_
  intro w14 hH15
  refine RL.gT rfl (bT (pop_eq a)) ?_
  refine RL.val rfl (run_move (v := I _) rfl) ?_
  refine RL.gT rfl (bT (pop_eq a)) ?_
  refine RL.callP rfl hH15 (c_clearanceref01_Below _  _) (run_call1 Tryd.call26 rfl) ?_
  intro w16 hH17
  refine RL.gT rfl (bT (pop_eq a)) ?_
  refine RL.val rfl (run_eqlU rfl rfl) ?_
  refine RL.val rfl (run_pickT (bT (pop_eq a)) (v := B _) rfl) ?_
  refine RL.val rfl (run_move (v := B _) rfl) ?_
  refine RL.gT rfl (bT (rfl)) ?_
  refine RL.callP rfl hH17 (c_clearancelaw01_alive   _ (hT.hp hH17)) (run_call0 Tryd.call12) ?_
  intro w19 hH20
  refine RL.val rfl (run_pickT (bT (rfl)) (v := B _) rfl) ?_
  refine RL.val rfl (run_assign (v := B _) rfl) ?_
  refine RL.nil ?_
  refine CW.ret ?_
  refine outP1 Tryd.results6 (congrArg B ?_) hH20.below
  rfl

theorem c_clearancelaw01_MaskOf (v : Value) (l : List Int) (s : BitVec 64) (k : Int) (w : World) (hs : Sl w v 1 l.length (l.map I)) (hT : Tab w) : Calls Tryd.prog 5 #[v, U s, I k] w (Pure (B true) w) := by
  have hl := lst_len s
  refine enter Tryd.func5 rfl Tryd.ntmps5 rfl ?_
  have hH := Hp.start w
  refine CW.seq ?_
  refine CW.region ?_
  refine RL.val rfl (run_assign (v := B false) rfl) ?_
  refine RL.nil ?_
  refine CW.seq ?_
  refine CW.seq ?_
  refine CW.region ?_
  refine RL.val rfl (run_move (by conv => lhs; whnf)) ?_
  refine RL.val rfl (run_lenSl (hs.hp hH) rfl Tryd.underlying23 rfl) ?_
  refine RL.val rfl (run_gtr rfl rfl) ?_
  refine RL.nil ?_
  refine CW.condP rfl (fun h2 => ?_) (fun h2 => ?_)
  · refine CW.seq ?_
    refine CW.region ?_
    refine RL.callP rfl hH (c_clearancelaw01_alive   _ (hT.hp hH)) (run_call0 Tryd.call12) ?_
    intro w3 hH4
    refine RL.val rfl (run_assign (v := B _) rfl) ?_
    refine RL.nil ?_
    refine CW.ret ?_
    refine outP1 Tryd.results5 (congrArg B ?_) hH4.below
    rfl
  · refine CW.skip ?_
    refine CW.seq ?_
    refine CW.seq ?_
    refine CW.region ?_
    refine RL.val rfl (run_move (by conv => lhs; whnf)) ?_
    refine RL.callP rfl hH (c_mask_Of _ _  _ (hs.hp hH)) (run_call1 Tryd.call16 rfl) ?_
    intro w6 hH7
    refine RL.val rfl (run_move (by conv => lhs; whnf)) ?_
    refine RL.callP rfl hH7 (c_clearanceref01_Of _ _  _ (hs.hp hH7)) (run_call1 Tryd.call17 rfl) ?_
    intro w8 hH9
    refine RL.val rfl (run_neqU rfl rfl) ?_
    refine RL.val rfl (run_move (v := B _) rfl) ?_
    refine RL.gT rfl (bF (fun h => h rfl)) ?_
    refine RL.val rfl (run_move (v := U _) rfl) ?_
    refine RL.gT rfl (bF (fun h => h rfl)) ?_
    refine RL.val rfl (run_move (v := I _) rfl) ?_
    refine RL.gT rfl (bF (fun h => h rfl)) ?_
    refine RL.callP rfl hH9 (c_mask_Has _ _  _) (run_call2 Tryd.call18 rfl rfl) ?_
    intro w11 hH12
    refine RL.gT rfl (bF (fun h => h rfl)) ?_
    refine RL.val rfl (run_move (v := U _) rfl) ?_
    refine RL.gT rfl (bF (fun h => h rfl)) ?_
    refine RL.val rfl (run_move (v := I _) rfl) ?_
    refine RL.gT rfl (bF (fun h => h rfl)) ?_
    refine RL.callP rfl hH12 (c_clearanceref01_Has _ _  _) (run_call2 Tryd.call19 rfl rfl) ?_
    intro w14 hH15
    refine RL.gT rfl (bF (fun h => h rfl)) ?_
    refine RL.val rfl (run_neqB Tryd.underlying4 rfl rfl) ?_
    refine RL.val rfl (run_pickF (bF (fun h => h rfl)) (v := B _) rfl) ?_
    refine RL.nil ?_
    refine CW.condF (bR (c := false) (by simp)) ?_
    refine CW.skip ?_
    refine CW.seq ?_
    refine CW.region ?_
    refine RL.val rfl (run_move (v := U _) rfl) ?_
    refine RL.callR rfl hH15 (c_clearanceref01_List _  _) (run_call1 Tryd.call10 rfl) ?_
    intro v20 w18 hH19
    refine RL.val rfl (run_move (v := I _) rfl) ?_
    refine RL.new rfl hH19 (f := fun b => (.slice (some ⟨b, 0, none⟩) 1 1)) (run_mkL Tryd.underlying23 rfl rfl (sz := 1) (vs := [I _]) rfl rfl (by decide) (by decide) rfl rfl) ?_
    intro b23 w21 hH22
    simp only [List.flatMap_cons, List.flatMap_nil, clI, clB, clS, clP, clL, clA, List.append_nil, List.cons_append, List.nil_append] at hH22
    refine RL.app rfl hH22 (i := 1) rfl (hH22.slBlk (i := 0) (n := 1) (sz := 1) rfl rfl (by decide)) rfl rfl Tryd.underlying23 rfl rfl (size := 1) (bytes := 8) rfl rfl rfl (by decide) (by simp [Value.oneCell']) (by omega) (by simp only [maxLen]; omega) ?_
    intro v24 w25 hH26
    simp only [List.set_cons_zero, List.set_cons_succ] at hH26
    refine RL.callP rfl hH26 (c_clearanceref01_Of _ (lst s ++ [k]) _ ((hH26.sl (i := 1) rfl).conv (by simp) (by simp))) (run_call1 Tryd.call17 rfl) ?_
    intro w27 hH28
    refine RL.val rfl (run_assign (v := U _) rfl) ?_
    refine RL.nil ?_
    refine CW.seq ?_
    refine CW.region ?_
    refine RL.val rfl (run_move (v := U _) rfl) ?_
    refine RL.val rfl (run_move (v := I _) rfl) ?_
    refine RL.callP rfl hH28 (c_mask_Without _ _  _) (run_call2 Tryd.call20 rfl rfl) ?_
    intro w29 hH30
    refine RL.val rfl (run_assign (v := U _) rfl) ?_
    refine RL.nil ?_
    refine CW.seq ?_
    refine CW.region ?_
    refine RL.val rfl (run_move (v := U _) rfl) ?_
    refine RL.val rfl (run_move (v := I _) rfl) ?_
    refine RL.callP rfl hH30 (c_mask_With _ _  _) (run_call2 Tryd.call21 rfl rfl) ?_
    intro w31 hH32
    refine RL.val rfl (run_move (v := U _) rfl) ?_
    refine RL.val rfl (run_eqlU rfl rfl) ?_
    refine RL.val rfl (run_move (v := B _) rfl) ?_
    refine RL.gT rfl (bT (with_list s k)) ?_
    refine RL.val rfl (run_move (v := U _) rfl) ?_
    refine RL.gT rfl (bT (with_list s k)) ?_
    refine RL.val rfl (run_move (v := I _) rfl) ?_
    refine RL.gT rfl (bT (with_list s k)) ?_
    refine RL.callP rfl hH32 (c_clearanceref01_Has _ _  _) (run_call2 Tryd.call19 rfl rfl) ?_
    intro w34 hH35
    refine RL.gT rfl (bT (with_list s k)) ?_
    refine RL.val rfl (run_not (bR (c := false) (has_less s k))) ?_
    refine RL.val rfl (run_pickT (bT (with_list s k)) (v := B _) rfl) ?_
    refine RL.val rfl (run_move (v := B _) rfl) ?_
    refine RL.gT rfl rfl ?_
    refine RL.val rfl (run_move (v := U _) rfl) ?_
    refine RL.gT rfl rfl ?_
    refine RL.val rfl (run_move (v := U _) rfl) ?_
    refine RL.gT rfl rfl ?_
    refine RL.callP rfl hH35 (c_clearanceref01_Sub _ _  _) (run_call2 Tryd.call22 rfl rfl) ?_
    intro w37 hH38
    refine RL.val rfl (run_pickT rfl (v := B _) rfl) ?_
    refine RL.val rfl (run_move (v := B _) rfl) ?_
    refine RL.gT rfl (bR (c := true) (sub_less s k)) ?_
    refine RL.val rfl (run_move (v := U _) rfl) ?_
    refine RL.gT rfl (bR (c := true) (sub_less s k)) ?_
    refine RL.val rfl (run_move (v := I _) rfl) ?_
    refine RL.gT rfl (bR (c := true) (sub_less s k)) ?_
    refine RL.callP rfl hH38 (c_mask_With _ _  _) (run_call2 Tryd.call21 rfl rfl) ?_
    intro w40 hH41
    refine RL.gT rfl (bR (c := true) (sub_less s k)) ?_
    refine RL.val rfl (run_move (v := U _) rfl) ?_
    refine RL.gT rfl (bR (c := true) (sub_less s k)) ?_
    refine RL.val rfl (run_eqlU rfl rfl) ?_
    refine RL.val rfl (run_pickT (bR (c := true) (sub_less s k)) (v := B _) rfl) ?_
    refine RL.val rfl (run_move (v := B _) rfl) ?_
    refine RL.gT rfl (bT (by rw [with_less, with_list])) ?_
    refine RL.callP rfl hH41 (c_clearancelaw01_alive   _ (hT.hp hH41)) (run_call0 Tryd.call12) ?_
    intro w43 hH44
    refine RL.val rfl (run_pickT (bT (by rw [with_less, with_list])) (v := B _) rfl) ?_
    refine RL.val rfl (run_assign (v := B _) rfl) ?_
    refine RL.nil ?_
    refine CW.ret ?_
    refine outP1 Tryd.results5 (congrArg B ?_) hH44.below
    rfl

theorem c_clearancelaw01_MaskBack (a b : BitVec 64) (k : Int) (w : World) (hT : Tab w) : Calls Tryd.prog 7 #[U a, U b, I k] w (Pure (B true) w) := by
  have hl := lst_len a
  refine enter Tryd.func7 rfl Tryd.ntmps7 rfl ?_
  have hH := Hp.start w
  refine CW.seq ?_
  refine CW.region ?_
  refine RL.val rfl (run_assign (v := B false) rfl) ?_
  refine RL.nil ?_
  refine CW.seq ?_
  refine CW.seq ?_
  refine CW.region ?_
  refine RL.val rfl (run_move (v := U _) rfl) ?_
  refine RL.callR rfl hH (c_mask_List _  _ (hT.hp hH)) (run_call1 Tryd.call15 rfl) ?_
  intro v3 w1 hH2
  refine RL.callP rfl hH2 (c_mask_Of _ _  _ (hH2.sl (i := 0) rfl)) (run_call1 Tryd.call16 rfl) ?_
  intro w4 hH5
  refine RL.val rfl (run_move (v := U _) rfl) ?_
  refine RL.val rfl (run_neqU rfl rfl) ?_
  refine RL.val rfl (run_move (v := B _) rfl) ?_
  refine RL.gT rfl (bF (fun h => h (ofl_lst a))) ?_
  refine RL.val rfl (run_move (v := U _) rfl) ?_
  refine RL.gT rfl (bF (fun h => h (ofl_lst a))) ?_
  refine RL.val rfl (run_move (v := U _) rfl) ?_
  refine RL.gT rfl (bF (fun h => h (ofl_lst a))) ?_
  refine RL.val rfl (run_move (v := U _) rfl) ?_
  refine RL.gT rfl (bF (fun h => h (ofl_lst a))) ?_
  refine RL.val rfl (run_orU rfl rfl) ?_
  refine RL.gT rfl (bF (fun h => h (ofl_lst a))) ?_
  refine RL.callP rfl hH5 (c_mask_Sub _ _  _) (run_call2 Tryd.call23 rfl rfl) ?_
  intro w7 hH8
  refine RL.gT rfl (bF (fun h => h (ofl_lst a))) ?_
  refine RL.val rfl (run_not (bR (c := true) (sub_or a b))) ?_
  refine RL.val rfl (run_pickF (bF (fun h => h (ofl_lst a))) (v := B _) rfl) ?_
  refine RL.val rfl (run_move (v := B _) rfl) ?_
  refine RL.gT rfl rfl ?_
  refine RL.val rfl (run_move (v := U _) rfl) ?_
  refine RL.gT rfl rfl ?_
  refine RL.val rfl (run_move (v := U _) rfl) ?_
  refine RL.gT rfl rfl ?_
  refine RL.val rfl (run_andU rfl rfl) ?_
  refine RL.gT rfl rfl ?_
  refine RL.val rfl (run_move (v := U _) rfl) ?_
  refine RL.gT rfl rfl ?_
  refine RL.callP rfl hH8 (c_mask_Sub _ _  _) (run_call2 Tryd.call23 rfl rfl) ?_
  intro w10 hH11
  refine RL.gT rfl rfl ?_
  refine RL.val rfl (run_not (bR (c := true) (and_sub a b))) ?_
  refine RL.val rfl (run_pickF rfl (v := B _) rfl) ?_
  refine RL.val rfl (run_move (v := B _) rfl) ?_
  refine RL.gT rfl rfl ?_
  refine RL.val rfl (run_move (v := U _) rfl) ?_
  refine RL.gT rfl rfl ?_
  refine RL.val rfl (run_move (v := U _) rfl) ?_
  refine RL.gT rfl rfl ?_
  refine RL.callP rfl hH11 (c_mask_Sub _ _  _) (run_call2 Tryd.call23 rfl rfl) ?_
  intro w13 hH14
  refine RL.gT rfl rfl ?_
  refine RL.val rfl (run_move (v := B _) rfl) ?_
  refine RL.split (dj := 33) rfl (fun h16 => ?_) (fun h16 => ?_)
  · refine RL.gT rfl (bR (c := true) h16) ?_
    refine RL.val rfl (run_move (v := U _) rfl) ?_
    refine RL.gT rfl (bR (c := true) h16) ?_
    refine RL.val rfl (run_move (v := I _) rfl) ?_
    refine RL.gT rfl (bR (c := true) h16) ?_
    refine RL.callP rfl hH14 (c_mask_Has _ _  _) (run_call2 Tryd.call18 rfl rfl) ?_
    intro w17 hH18
    refine RL.gT rfl rfl ?_
    refine RL.val rfl (run_pickT (bR (c := true) h16) (v := B _) rfl) ?_
    refine RL.gT rfl rfl ?_
    refine RL.val rfl (run_move (v := B _) rfl) ?_
    refine RL.split (dj := 38) rfl (fun h20 => ?_) (fun h20 => ?_)
    · refine RL.gT rfl (bR (c := true) h20) ?_
      refine RL.val rfl (run_move (v := U _) rfl) ?_
      refine RL.gT rfl (bR (c := true) h20) ?_
      refine RL.val rfl (run_move (v := I _) rfl) ?_
      refine RL.gT rfl (bR (c := true) h20) ?_
      refine RL.callP rfl hH18 (c_mask_Has _ _  _) (run_call2 Tryd.call18 rfl rfl) ?_
      intro w21 hH22
      refine RL.gT rfl (bR (c := true) h20) ?_
      refine RL.val rfl (run_not rfl) ?_
      refine RL.gT rfl rfl ?_
      refine RL.val rfl (run_pickT (bR (c := true) h20) (v := B _) rfl) ?_
      refine RL.val rfl (run_pickF rfl (v := B _) rfl) ?_
      refine RL.nil ?_
      refine CW.condF (bR (c := false) (sub_has ‹subB a b = true› ‹hasB a k = true›)) ?_
      refine CW.skip ?_
      refine CW.seq ?_
      refine CW.region ?_
      refine RL.val rfl (run_assign (v := I 0) rfl) ?_
      refine RL.nil ?_
      refine CW.seq ?_
      refine CW.seq ?_
      refine CW.region ?_
      refine RL.val rfl (run_move (v := U _) rfl) ?_
      refine RL.val rfl (run_move (v := I _) rfl) ?_
      refine RL.callP rfl hH22 (c_mask_With _ _  _) (run_call2 Tryd.call21 rfl rfl) ?_
      intro w25 hH26
      refine RL.val rfl (run_move (v := U _) rfl) ?_
      refine RL.val rfl (run_neqU rfl rfl) ?_
      refine RL.nil ?_
      refine CW.condP rfl (fun h28 => ?_) (fun h28 => ?_)
      · refine CW.region ?_
        refine RL.val rfl (run_assign (v := I 1) rfl) ?_
        refine RL.nil ?_
        refine CW.seq ?_
        refine CW.region ?_
        refine RL.val rfl (run_move (v := U _) rfl) ?_
        refine RL.val rfl (run_move (v := I _) rfl) ?_
        refine RL.callP rfl hH26 (c_mask_With _ _  _) (run_call2 Tryd.call21 rfl rfl) ?_
        intro w29 hH30
        refine RL.callP rfl hH30 (c_mask_Count _  _) (run_call1 Tryd.call24 rfl) ?_
        intro w31 hH32
        refine RL.val rfl (run_move (v := U _) rfl) ?_
        refine RL.callP rfl hH32 (c_mask_Count _  _) (run_call1 Tryd.call24 rfl) ?_
        intro w33 hH34
        refine RL.val rfl (run_move (v := I _) rfl) ?_
        refine RL.val rfl (run_add rfl rfl (by exact add_bd (by first | exact pop_bd _ | decide) (by first | exact pop_bd _ | decide))) ?_
        refine RL.val rfl (run_eql rfl rfl) ?_
        refine RL.val rfl (run_move (v := B _) rfl) ?_
        refine RL.gT rfl (bT (by first | exact pop_with ‹_› | exact pop_with0 ‹_›)) ?_
        refine RL.val rfl (run_move (v := U _) rfl) ?_
        refine RL.gT rfl (bT (by first | exact pop_with ‹_› | exact pop_with0 ‹_›)) ?_
        refine RL.callP rfl hH34 (c_mask_Count _  _) (run_call1 Tryd.call24 rfl) ?_
        intro w36 hH37
        refine RL.gT rfl (bT (by first | exact pop_with ‹_› | exact pop_with0 ‹_›)) ?_
        refine RL.val rfl (run_move (v := U _) rfl) ?_
        refine RL.gT rfl (bT (by first | exact pop_with ‹_› | exact pop_with0 ‹_›)) ?_
        refine RL.callP rfl hH37 (c_mask_Count _  _) (run_call1 Tryd.call24 rfl) ?_
        intro w38 hH39
        refine RL.gT rfl (bT (by first | exact pop_with ‹_› | exact pop_with0 ‹_›)) ?_
        refine RL.val rfl (run_add rfl rfl (by exact add_bd (by first | exact pop_bd _ | decide) (by first | exact pop_bd _ | decide))) ?_
        refine RL.gT rfl (bT (by first | exact pop_with ‹_› | exact pop_with0 ‹_›)) ?_
        refine RL.val rfl (run_move (v := U _) rfl) ?_
        refine RL.gT rfl (bT (by first | exact pop_with ‹_› | exact pop_with0 ‹_›)) ?_
        refine RL.val rfl (run_move (v := U _) rfl) ?_
        refine RL.gT rfl (bT (by first | exact pop_with ‹_› | exact pop_with0 ‹_›)) ?_
        refine RL.val rfl (run_orU rfl rfl) ?_
        refine RL.gT rfl (bT (by first | exact pop_with ‹_› | exact pop_with0 ‹_›)) ?_
        refine RL.callP rfl hH39 (c_mask_Count _  _) (run_call1 Tryd.call24 rfl) ?_
        intro w40 hH41
        refine RL.gT rfl (bT (by first | exact pop_with ‹_› | exact pop_with0 ‹_›)) ?_
        refine RL.val rfl (run_move (v := U _) rfl) ?_
        refine RL.gT rfl (bT (by first | exact pop_with ‹_› | exact pop_with0 ‹_›)) ?_
        refine RL.val rfl (run_move (v := U _) rfl) ?_
        refine RL.gT rfl (bT (by first | exact pop_with ‹_› | exact pop_with0 ‹_›)) ?_
        refine RL.val rfl (run_andU rfl rfl) ?_
        refine RL.gT rfl (bT (by first | exact pop_with ‹_› | exact pop_with0 ‹_›)) ?_
        refine RL.callP rfl hH41 (c_mask_Count _  _) (run_call1 Tryd.call24 rfl) ?_
        intro w42 hH43
        refine RL.gT rfl (bT (by first | exact pop_with ‹_› | exact pop_with0 ‹_›)) ?_
        refine RL.val rfl (run_add rfl rfl (by exact add_bd (by first | exact pop_bd _ | decide) (by first | exact pop_bd _ | decide))) ?_
        refine RL.gT rfl (bT (by first | exact pop_with ‹_› | exact pop_with0 ‹_›)) ?_
        refine RL.val rfl (run_eql rfl rfl) ?_
        refine RL.val rfl (run_pickT (bT (by first | exact pop_with ‹_› | exact pop_with0 ‹_›)) (v := B _) rfl) ?_
        refine RL.val rfl (run_move (v := B _) rfl) ?_
        refine RL.gT rfl (bT (pop_or_and a b)) ?_
        refine RL.callP rfl hH43 (c_clearancelaw01_alive   _ (hT.hp hH43)) (run_call0 Tryd.call12) ?_
        intro w45 hH46
        refine RL.val rfl (run_pickT (bT (pop_or_and a b)) (v := B _) rfl) ?_
        refine RL.val rfl (run_assign (v := B _) rfl) ?_
        refine RL.nil ?_
        refine CW.ret ?_
        refine outP1 Tryd.results7 (congrArg B ?_) hH46.below
        rfl
      · refine CW.skip ?_
        refine CW.seq ?_
        refine CW.region ?_
        refine RL.val rfl (run_move (v := U _) rfl) ?_
        refine RL.val rfl (run_move (v := I _) rfl) ?_
        refine RL.callP rfl hH26 (c_mask_With _ _  _) (run_call2 Tryd.call21 rfl rfl) ?_
        intro w48 hH49
        refine RL.callP rfl hH49 (c_mask_Count _  _) (run_call1 Tryd.call24 rfl) ?_
        intro w50 hH51
        refine RL.val rfl (run_move (v := U _) rfl) ?_
        refine RL.callP rfl hH51 (c_mask_Count _  _) (run_call1 Tryd.call24 rfl) ?_
        intro w52 hH53
        refine RL.val rfl (run_move (v := I _) rfl) ?_
        refine RL.val rfl (run_add rfl rfl (by exact add_bd (by first | exact pop_bd _ | decide) (by first | exact pop_bd _ | decide))) ?_
        refine RL.val rfl (run_eql rfl rfl) ?_
        refine RL.val rfl (run_move (v := B _) rfl) ?_
        refine RL.gT rfl (bT (by first | exact pop_with ‹_› | exact pop_with0 ‹_›)) ?_
        refine RL.val rfl (run_move (v := U _) rfl) ?_
        refine RL.gT rfl (bT (by first | exact pop_with ‹_› | exact pop_with0 ‹_›)) ?_
        refine RL.callP rfl hH53 (c_mask_Count _  _) (run_call1 Tryd.call24 rfl) ?_
        intro w55 hH56
        refine RL.gT rfl (bT (by first | exact pop_with ‹_› | exact pop_with0 ‹_›)) ?_
        refine RL.val rfl (run_move (v := U _) rfl) ?_
        refine RL.gT rfl (bT (by first | exact pop_with ‹_› | exact pop_with0 ‹_›)) ?_
        refine RL.callP rfl hH56 (c_mask_Count _  _) (run_call1 Tryd.call24 rfl) ?_
        intro w57 hH58
        refine RL.gT rfl (bT (by first | exact pop_with ‹_› | exact pop_with0 ‹_›)) ?_
        refine RL.val rfl (run_add rfl rfl (by exact add_bd (by first | exact pop_bd _ | decide) (by first | exact pop_bd _ | decide))) ?_
        refine RL.gT rfl (bT (by first | exact pop_with ‹_› | exact pop_with0 ‹_›)) ?_
        refine RL.val rfl (run_move (v := U _) rfl) ?_
        refine RL.gT rfl (bT (by first | exact pop_with ‹_› | exact pop_with0 ‹_›)) ?_
        refine RL.val rfl (run_move (v := U _) rfl) ?_
        refine RL.gT rfl (bT (by first | exact pop_with ‹_› | exact pop_with0 ‹_›)) ?_
        refine RL.val rfl (run_orU rfl rfl) ?_
        refine RL.gT rfl (bT (by first | exact pop_with ‹_› | exact pop_with0 ‹_›)) ?_
        refine RL.callP rfl hH58 (c_mask_Count _  _) (run_call1 Tryd.call24 rfl) ?_
        intro w59 hH60
        refine RL.gT rfl (bT (by first | exact pop_with ‹_› | exact pop_with0 ‹_›)) ?_
        refine RL.val rfl (run_move (v := U _) rfl) ?_
        refine RL.gT rfl (bT (by first | exact pop_with ‹_› | exact pop_with0 ‹_›)) ?_
        refine RL.val rfl (run_move (v := U _) rfl) ?_
        refine RL.gT rfl (bT (by first | exact pop_with ‹_› | exact pop_with0 ‹_›)) ?_
        refine RL.val rfl (run_andU rfl rfl) ?_
        refine RL.gT rfl (bT (by first | exact pop_with ‹_› | exact pop_with0 ‹_›)) ?_
        refine RL.callP rfl hH60 (c_mask_Count _  _) (run_call1 Tryd.call24 rfl) ?_
        intro w61 hH62
        refine RL.gT rfl (bT (by first | exact pop_with ‹_› | exact pop_with0 ‹_›)) ?_
        refine RL.val rfl (run_add rfl rfl (by exact add_bd (by first | exact pop_bd _ | decide) (by first | exact pop_bd _ | decide))) ?_
        refine RL.gT rfl (bT (by first | exact pop_with ‹_› | exact pop_with0 ‹_›)) ?_
        refine RL.val rfl (run_eql rfl rfl) ?_
        refine RL.val rfl (run_pickT (bT (by first | exact pop_with ‹_› | exact pop_with0 ‹_›)) (v := B _) rfl) ?_
        refine RL.val rfl (run_move (v := B _) rfl) ?_
        refine RL.gT rfl (bT (pop_or_and a b)) ?_
        refine RL.callP rfl hH62 (c_clearancelaw01_alive   _ (hT.hp hH62)) (run_call0 Tryd.call12) ?_
        intro w64 hH65
        refine RL.val rfl (run_pickT (bT (pop_or_and a b)) (v := B _) rfl) ?_
        refine RL.val rfl (run_assign (v := B _) rfl) ?_
        refine RL.nil ?_
        refine CW.ret ?_
        refine outP1 Tryd.results7 (congrArg B ?_) hH65.below
        rfl
    · refine RL.gF rfl rfl (bR (c := false) h20) rfl ?_
      refine RL.gF rfl rfl (bR (c := false) h20) rfl ?_
      refine RL.gF rfl rfl (bR (c := false) h20) rfl ?_
      refine RL.gF rfl rfl (bR (c := false) h20) rfl ?_
      refine RL.gT rfl rfl ?_
      refine RL.val rfl (run_pickF (bR (c := false) h20) (v := B false) rfl) ?_
      refine RL.val rfl (run_pickF rfl (v := B _) rfl) ?_
      refine RL.nil ?_
      refine CW.condF rfl ?_
      refine CW.skip ?_
      refine CW.seq ?_
      refine CW.region ?_
      refine RL.val rfl (run_assign (v := I 0) rfl) ?_
      refine RL.nil ?_
      refine CW.seq ?_
      refine CW.seq ?_
      refine CW.region ?_
      refine RL.val rfl (run_move (v := U _) rfl) ?_
      refine RL.val rfl (run_move (v := I _) rfl) ?_
      refine RL.callP rfl hH18 (c_mask_With _ _  _) (run_call2 Tryd.call21 rfl rfl) ?_
      intro w67 hH68
      refine RL.val rfl (run_move (v := U _) rfl) ?_
      refine RL.val rfl (run_neqU rfl rfl) ?_
      refine RL.nil ?_
      refine CW.condP rfl (fun h70 => ?_) (fun h70 => ?_)
      · refine CW.region ?_
        refine RL.val rfl (run_assign (v := I 1) rfl) ?_
        refine RL.nil ?_
        refine CW.seq ?_
        refine CW.region ?_
        refine RL.val rfl (run_move (v := U _) rfl) ?_
        refine RL.val rfl (run_move (v := I _) rfl) ?_
        refine RL.callP rfl hH68 (c_mask_With _ _  _) (run_call2 Tryd.call21 rfl rfl) ?_
        intro w71 hH72
        refine RL.callP rfl hH72 (c_mask_Count _  _) (run_call1 Tryd.call24 rfl) ?_
        intro w73 hH74
        refine RL.val rfl (run_move (v := U _) rfl) ?_
        refine RL.callP rfl hH74 (c_mask_Count _  _) (run_call1 Tryd.call24 rfl) ?_
        intro w75 hH76
        refine RL.val rfl (run_move (v := I _) rfl) ?_
        refine RL.val rfl (run_add rfl rfl (by exact add_bd (by first | exact pop_bd _ | decide) (by first | exact pop_bd _ | decide))) ?_
        refine RL.val rfl (run_eql rfl rfl) ?_
        refine RL.val rfl (run_move (v := B _) rfl) ?_
        refine RL.gT rfl (bT (by first | exact pop_with ‹_› | exact pop_with0 ‹_›)) ?_
        refine RL.val rfl (run_move (v := U _) rfl) ?_
        refine RL.gT rfl (bT (by first | exact pop_with ‹_› | exact pop_with0 ‹_›)) ?_
        refine RL.callP rfl hH76 (c_mask_Count _  _) (run_call1 Tryd.call24 rfl) ?_
        intro w78 hH79
        refine RL.gT rfl (bT (by first | exact pop_with ‹_› | exact pop_with0 ‹_›)) ?_
        refine RL.val rfl (run_move (v := U _) rfl) ?_
        refine RL.gT rfl (bT (by first | exact pop_with ‹_› | exact pop_with0 ‹_›)) ?_
        refine RL.callP rfl hH79 (c_mask_Count _  _) (run_call1 Tryd.call24 rfl) ?_
        intro w80 hH81
        refine RL.gT rfl (bT (by first | exact pop_with ‹_› | exact pop_with0 ‹_›)) ?_
        refine RL.val rfl (run_add rfl rfl (by exact add_bd (by first | exact pop_bd _ | decide) (by first | exact pop_bd _ | decide))) ?_
        refine RL.gT rfl (bT (by first | exact pop_with ‹_› | exact pop_with0 ‹_›)) ?_
        refine RL.val rfl (run_move (v := U _) rfl) ?_
        refine RL.gT rfl (bT (by first | exact pop_with ‹_› | exact pop_with0 ‹_›)) ?_
        refine RL.val rfl (run_move (v := U _) rfl) ?_
        refine RL.gT rfl (bT (by first | exact pop_with ‹_› | exact pop_with0 ‹_›)) ?_
        refine RL.val rfl (run_orU rfl rfl) ?_
        refine RL.gT rfl (bT (by first | exact pop_with ‹_› | exact pop_with0 ‹_›)) ?_
        refine RL.callP rfl hH81 (c_mask_Count _  _) (run_call1 Tryd.call24 rfl) ?_
        intro w82 hH83
        refine RL.gT rfl (bT (by first | exact pop_with ‹_› | exact pop_with0 ‹_›)) ?_
        refine RL.val rfl (run_move (v := U _) rfl) ?_
        refine RL.gT rfl (bT (by first | exact pop_with ‹_› | exact pop_with0 ‹_›)) ?_
        refine RL.val rfl (run_move (v := U _) rfl) ?_
        refine RL.gT rfl (bT (by first | exact pop_with ‹_› | exact pop_with0 ‹_›)) ?_
        refine RL.val rfl (run_andU rfl rfl) ?_
        refine RL.gT rfl (bT (by first | exact pop_with ‹_› | exact pop_with0 ‹_›)) ?_
        refine RL.callP rfl hH83 (c_mask_Count _  _) (run_call1 Tryd.call24 rfl) ?_
        intro w84 hH85
        refine RL.gT rfl (bT (by first | exact pop_with ‹_› | exact pop_with0 ‹_›)) ?_
        refine RL.val rfl (run_add rfl rfl (by exact add_bd (by first | exact pop_bd _ | decide) (by first | exact pop_bd _ | decide))) ?_
        refine RL.gT rfl (bT (by first | exact pop_with ‹_› | exact pop_with0 ‹_›)) ?_
        refine RL.val rfl (run_eql rfl rfl) ?_
        refine RL.val rfl (run_pickT (bT (by first | exact pop_with ‹_› | exact pop_with0 ‹_›)) (v := B _) rfl) ?_
        refine RL.val rfl (run_move (v := B _) rfl) ?_
        refine RL.gT rfl (bT (pop_or_and a b)) ?_
        refine RL.callP rfl hH85 (c_clearancelaw01_alive   _ (hT.hp hH85)) (run_call0 Tryd.call12) ?_
        intro w87 hH88
        refine RL.val rfl (run_pickT (bT (pop_or_and a b)) (v := B _) rfl) ?_
        refine RL.val rfl (run_assign (v := B _) rfl) ?_
        refine RL.nil ?_
        refine CW.ret ?_
        refine outP1 Tryd.results7 (congrArg B ?_) hH88.below
        rfl
      · refine CW.skip ?_
        refine CW.seq ?_
        refine CW.region ?_
        refine RL.val rfl (run_move (v := U _) rfl) ?_
        refine RL.val rfl (run_move (v := I _) rfl) ?_
        refine RL.callP rfl hH68 (c_mask_With _ _  _) (run_call2 Tryd.call21 rfl rfl) ?_
        intro w90 hH91
        refine RL.callP rfl hH91 (c_mask_Count _  _) (run_call1 Tryd.call24 rfl) ?_
        intro w92 hH93
        refine RL.val rfl (run_move (v := U _) rfl) ?_
        refine RL.callP rfl hH93 (c_mask_Count _  _) (run_call1 Tryd.call24 rfl) ?_
        intro w94 hH95
        refine RL.val rfl (run_move (v := I _) rfl) ?_
        refine RL.val rfl (run_add rfl rfl (by exact add_bd (by first | exact pop_bd _ | decide) (by first | exact pop_bd _ | decide))) ?_
        refine RL.val rfl (run_eql rfl rfl) ?_
        refine RL.val rfl (run_move (v := B _) rfl) ?_
        refine RL.gT rfl (bT (by first | exact pop_with ‹_› | exact pop_with0 ‹_›)) ?_
        refine RL.val rfl (run_move (v := U _) rfl) ?_
        refine RL.gT rfl (bT (by first | exact pop_with ‹_› | exact pop_with0 ‹_›)) ?_
        refine RL.callP rfl hH95 (c_mask_Count _  _) (run_call1 Tryd.call24 rfl) ?_
        intro w97 hH98
        refine RL.gT rfl (bT (by first | exact pop_with ‹_› | exact pop_with0 ‹_›)) ?_
        refine RL.val rfl (run_move (v := U _) rfl) ?_
        refine RL.gT rfl (bT (by first | exact pop_with ‹_› | exact pop_with0 ‹_›)) ?_
        refine RL.callP rfl hH98 (c_mask_Count _  _) (run_call1 Tryd.call24 rfl) ?_
        intro w99 hH100
        refine RL.gT rfl (bT (by first | exact pop_with ‹_› | exact pop_with0 ‹_›)) ?_
        refine RL.val rfl (run_add rfl rfl (by exact add_bd (by first | exact pop_bd _ | decide) (by first | exact pop_bd _ | decide))) ?_
        refine RL.gT rfl (bT (by first | exact pop_with ‹_› | exact pop_with0 ‹_›)) ?_
        refine RL.val rfl (run_move (v := U _) rfl) ?_
        refine RL.gT rfl (bT (by first | exact pop_with ‹_› | exact pop_with0 ‹_›)) ?_
        refine RL.val rfl (run_move (v := U _) rfl) ?_
        refine RL.gT rfl (bT (by first | exact pop_with ‹_› | exact pop_with0 ‹_›)) ?_
        refine RL.val rfl (run_orU rfl rfl) ?_
        refine RL.gT rfl (bT (by first | exact pop_with ‹_› | exact pop_with0 ‹_›)) ?_
        refine RL.callP rfl hH100 (c_mask_Count _  _) (run_call1 Tryd.call24 rfl) ?_
        intro w101 hH102
        refine RL.gT rfl (bT (by first | exact pop_with ‹_› | exact pop_with0 ‹_›)) ?_
        refine RL.val rfl (run_move (v := U _) rfl) ?_
        refine RL.gT rfl (bT (by first | exact pop_with ‹_› | exact pop_with0 ‹_›)) ?_
        refine RL.val rfl (run_move (v := U _) rfl) ?_
        refine RL.gT rfl (bT (by first | exact pop_with ‹_› | exact pop_with0 ‹_›)) ?_
        refine RL.val rfl (run_andU rfl rfl) ?_
        refine RL.gT rfl (bT (by first | exact pop_with ‹_› | exact pop_with0 ‹_›)) ?_
        refine RL.callP rfl hH102 (c_mask_Count _  _) (run_call1 Tryd.call24 rfl) ?_
        intro w103 hH104
        refine RL.gT rfl (bT (by first | exact pop_with ‹_› | exact pop_with0 ‹_›)) ?_
        refine RL.val rfl (run_add rfl rfl (by exact add_bd (by first | exact pop_bd _ | decide) (by first | exact pop_bd _ | decide))) ?_
        refine RL.gT rfl (bT (by first | exact pop_with ‹_› | exact pop_with0 ‹_›)) ?_
        refine RL.val rfl (run_eql rfl rfl) ?_
        refine RL.val rfl (run_pickT (bT (by first | exact pop_with ‹_› | exact pop_with0 ‹_›)) (v := B _) rfl) ?_
        refine RL.val rfl (run_move (v := B _) rfl) ?_
        refine RL.gT rfl (bT (pop_or_and a b)) ?_
        refine RL.callP rfl hH104 (c_clearancelaw01_alive   _ (hT.hp hH104)) (run_call0 Tryd.call12) ?_
        intro w106 hH107
        refine RL.val rfl (run_pickT (bT (pop_or_and a b)) (v := B _) rfl) ?_
        refine RL.val rfl (run_assign (v := B _) rfl) ?_
        refine RL.nil ?_
        refine CW.ret ?_
        refine outP1 Tryd.results7 (congrArg B ?_) hH107.below
        rfl
  · refine RL.gF rfl rfl (bR (c := false) h16) rfl ?_
    refine RL.gF rfl rfl (bR (c := false) h16) rfl ?_
    refine RL.gF rfl rfl (bR (c := false) h16) rfl ?_
    refine RL.gT rfl rfl ?_
    refine RL.val rfl (run_pickF (bR (c := false) h16) (v := B false) rfl) ?_
    refine RL.gT rfl rfl ?_
    refine RL.val rfl (run_move (v := B _) rfl) ?_
    refine RL.gF rfl rfl rfl rfl ?_
    refine RL.gF rfl rfl rfl rfl ?_
    refine RL.gF rfl rfl rfl rfl ?_
    refine RL.gF rfl rfl rfl rfl ?_
    refine RL.gT rfl rfl ?_
    refine RL.val rfl (run_pickF rfl (v := B false) rfl) ?_
    refine RL.val rfl (run_pickF rfl (v := B _) rfl) ?_
    refine RL.nil ?_
    refine CW.condF rfl ?_
    refine CW.skip ?_
    refine CW.seq ?_
    refine CW.region ?_
    refine RL.val rfl (run_assign (v := I 0) rfl) ?_
    refine RL.nil ?_
    refine CW.seq ?_
    refine CW.seq ?_
    refine CW.region ?_
    refine RL.val rfl (run_move (v := U _) rfl) ?_
    refine RL.val rfl (run_move (v := I _) rfl) ?_
    refine RL.callP rfl hH14 (c_mask_With _ _  _) (run_call2 Tryd.call21 rfl rfl) ?_
    intro w109 hH110
    refine RL.val rfl (run_move (v := U _) rfl) ?_
    refine RL.val rfl (run_neqU rfl rfl) ?_
    refine RL.nil ?_
    refine CW.condP rfl (fun h112 => ?_) (fun h112 => ?_)
    · refine CW.region ?_
      refine RL.val rfl (run_assign (v := I 1) rfl) ?_
      refine RL.nil ?_
      refine CW.seq ?_
      refine CW.region ?_
      refine RL.val rfl (run_move (v := U _) rfl) ?_
      refine RL.val rfl (run_move (v := I _) rfl) ?_
      refine RL.callP rfl hH110 (c_mask_With _ _  _) (run_call2 Tryd.call21 rfl rfl) ?_
      intro w113 hH114
      refine RL.callP rfl hH114 (c_mask_Count _  _) (run_call1 Tryd.call24 rfl) ?_
      intro w115 hH116
      refine RL.val rfl (run_move (v := U _) rfl) ?_
      refine RL.callP rfl hH116 (c_mask_Count _  _) (run_call1 Tryd.call24 rfl) ?_
      intro w117 hH118
      refine RL.val rfl (run_move (v := I _) rfl) ?_
      refine RL.val rfl (run_add rfl rfl (by exact add_bd (by first | exact pop_bd _ | decide) (by first | exact pop_bd _ | decide))) ?_
      refine RL.val rfl (run_eql rfl rfl) ?_
      refine RL.val rfl (run_move (v := B _) rfl) ?_
      refine RL.gT rfl (bT (by first | exact pop_with ‹_› | exact pop_with0 ‹_›)) ?_
      refine RL.val rfl (run_move (v := U _) rfl) ?_
      refine RL.gT rfl (bT (by first | exact pop_with ‹_› | exact pop_with0 ‹_›)) ?_
      refine RL.callP rfl hH118 (c_mask_Count _  _) (run_call1 Tryd.call24 rfl) ?_
      intro w120 hH121
      refine RL.gT rfl (bT (by first | exact pop_with ‹_› | exact pop_with0 ‹_›)) ?_
      refine RL.val rfl (run_move (v := U _) rfl) ?_
      refine RL.gT rfl (bT (by first | exact pop_with ‹_› | exact pop_with0 ‹_›)) ?_
      refine RL.callP rfl hH121 (c_mask_Count _  _) (run_call1 Tryd.call24 rfl) ?_
      intro w122 hH123
      refine RL.gT rfl (bT (by first | exact pop_with ‹_› | exact pop_with0 ‹_›)) ?_
      refine RL.val rfl (run_add rfl rfl (by exact add_bd (by first | exact pop_bd _ | decide) (by first | exact pop_bd _ | decide))) ?_
      refine RL.gT rfl (bT (by first | exact pop_with ‹_› | exact pop_with0 ‹_›)) ?_
      refine RL.val rfl (run_move (v := U _) rfl) ?_
      refine RL.gT rfl (bT (by first | exact pop_with ‹_› | exact pop_with0 ‹_›)) ?_
      refine RL.val rfl (run_move (v := U _) rfl) ?_
      refine RL.gT rfl (bT (by first | exact pop_with ‹_› | exact pop_with0 ‹_›)) ?_
      refine RL.val rfl (run_orU rfl rfl) ?_
      refine RL.gT rfl (bT (by first | exact pop_with ‹_› | exact pop_with0 ‹_›)) ?_
      refine RL.callP rfl hH123 (c_mask_Count _  _) (run_call1 Tryd.call24 rfl) ?_
      intro w124 hH125
      refine RL.gT rfl (bT (by first | exact pop_with ‹_› | exact pop_with0 ‹_›)) ?_
      refine RL.val rfl (run_move (v := U _) rfl) ?_
      refine RL.gT rfl (bT (by first | exact pop_with ‹_› | exact pop_with0 ‹_›)) ?_
      refine RL.val rfl (run_move (v := U _) rfl) ?_
      refine RL.gT rfl (bT (by first | exact pop_with ‹_› | exact pop_with0 ‹_›)) ?_
      refine RL.val rfl (run_andU rfl rfl) ?_
      refine RL.gT rfl (bT (by first | exact pop_with ‹_› | exact pop_with0 ‹_›)) ?_
      refine RL.callP rfl hH125 (c_mask_Count _  _) (run_call1 Tryd.call24 rfl) ?_
      intro w126 hH127
      refine RL.gT rfl (bT (by first | exact pop_with ‹_› | exact pop_with0 ‹_›)) ?_
      refine RL.val rfl (run_add rfl rfl (by exact add_bd (by first | exact pop_bd _ | decide) (by first | exact pop_bd _ | decide))) ?_
      refine RL.gT rfl (bT (by first | exact pop_with ‹_› | exact pop_with0 ‹_›)) ?_
      refine RL.val rfl (run_eql rfl rfl) ?_
      refine RL.val rfl (run_pickT (bT (by first | exact pop_with ‹_› | exact pop_with0 ‹_›)) (v := B _) rfl) ?_
      refine RL.val rfl (run_move (v := B _) rfl) ?_
      refine RL.gT rfl (bT (pop_or_and a b)) ?_
      refine RL.callP rfl hH127 (c_clearancelaw01_alive   _ (hT.hp hH127)) (run_call0 Tryd.call12) ?_
      intro w129 hH130
      refine RL.val rfl (run_pickT (bT (pop_or_and a b)) (v := B _) rfl) ?_
      refine RL.val rfl (run_assign (v := B _) rfl) ?_
      refine RL.nil ?_
      refine CW.ret ?_
      refine outP1 Tryd.results7 (congrArg B ?_) hH130.below
      rfl
    · refine CW.skip ?_
      refine CW.seq ?_
      refine CW.region ?_
      refine RL.val rfl (run_move (v := U _) rfl) ?_
      refine RL.val rfl (run_move (v := I _) rfl) ?_
      refine RL.callP rfl hH110 (c_mask_With _ _  _) (run_call2 Tryd.call21 rfl rfl) ?_
      intro w132 hH133
      refine RL.callP rfl hH133 (c_mask_Count _  _) (run_call1 Tryd.call24 rfl) ?_
      intro w134 hH135
      refine RL.val rfl (run_move (v := U _) rfl) ?_
      refine RL.callP rfl hH135 (c_mask_Count _  _) (run_call1 Tryd.call24 rfl) ?_
      intro w136 hH137
      refine RL.val rfl (run_move (v := I _) rfl) ?_
      refine RL.val rfl (run_add rfl rfl (by exact add_bd (by first | exact pop_bd _ | decide) (by first | exact pop_bd _ | decide))) ?_
      refine RL.val rfl (run_eql rfl rfl) ?_
      refine RL.val rfl (run_move (v := B _) rfl) ?_
      refine RL.gT rfl (bT (by first | exact pop_with ‹_› | exact pop_with0 ‹_›)) ?_
      refine RL.val rfl (run_move (v := U _) rfl) ?_
      refine RL.gT rfl (bT (by first | exact pop_with ‹_› | exact pop_with0 ‹_›)) ?_
      refine RL.callP rfl hH137 (c_mask_Count _  _) (run_call1 Tryd.call24 rfl) ?_
      intro w139 hH140
      refine RL.gT rfl (bT (by first | exact pop_with ‹_› | exact pop_with0 ‹_›)) ?_
      refine RL.val rfl (run_move (v := U _) rfl) ?_
      refine RL.gT rfl (bT (by first | exact pop_with ‹_› | exact pop_with0 ‹_›)) ?_
      refine RL.callP rfl hH140 (c_mask_Count _  _) (run_call1 Tryd.call24 rfl) ?_
      intro w141 hH142
      refine RL.gT rfl (bT (by first | exact pop_with ‹_› | exact pop_with0 ‹_›)) ?_
      refine RL.val rfl (run_add rfl rfl (by exact add_bd (by first | exact pop_bd _ | decide) (by first | exact pop_bd _ | decide))) ?_
      refine RL.gT rfl (bT (by first | exact pop_with ‹_› | exact pop_with0 ‹_›)) ?_
      refine RL.val rfl (run_move (v := U _) rfl) ?_
      refine RL.gT rfl (bT (by first | exact pop_with ‹_› | exact pop_with0 ‹_›)) ?_
      refine RL.val rfl (run_move (v := U _) rfl) ?_
      refine RL.gT rfl (bT (by first | exact pop_with ‹_› | exact pop_with0 ‹_›)) ?_
      refine RL.val rfl (run_orU rfl rfl) ?_
      refine RL.gT rfl (bT (by first | exact pop_with ‹_› | exact pop_with0 ‹_›)) ?_
      refine RL.callP rfl hH142 (c_mask_Count _  _) (run_call1 Tryd.call24 rfl) ?_
      intro w143 hH144
      refine RL.gT rfl (bT (by first | exact pop_with ‹_› | exact pop_with0 ‹_›)) ?_
      refine RL.val rfl (run_move (v := U _) rfl) ?_
      refine RL.gT rfl (bT (by first | exact pop_with ‹_› | exact pop_with0 ‹_›)) ?_
      refine RL.val rfl (run_move (v := U _) rfl) ?_
      refine RL.gT rfl (bT (by first | exact pop_with ‹_› | exact pop_with0 ‹_›)) ?_
      refine RL.val rfl (run_andU rfl rfl) ?_
      refine RL.gT rfl (bT (by first | exact pop_with ‹_› | exact pop_with0 ‹_›)) ?_
      refine RL.callP rfl hH144 (c_mask_Count _  _) (run_call1 Tryd.call24 rfl) ?_
      intro w145 hH146
      refine RL.gT rfl (bT (by first | exact pop_with ‹_› | exact pop_with0 ‹_›)) ?_
      refine RL.val rfl (run_add rfl rfl (by exact add_bd (by first | exact pop_bd _ | decide) (by first | exact pop_bd _ | decide))) ?_
      refine RL.gT rfl (bT (by first | exact pop_with ‹_› | exact pop_with0 ‹_›)) ?_
      refine RL.val rfl (run_eql rfl rfl) ?_
      refine RL.val rfl (run_pickT (bT (by first | exact pop_with ‹_› | exact pop_with0 ‹_›)) (v := B _) rfl) ?_
      refine RL.val rfl (run_move (v := B _) rfl) ?_
      refine RL.gT rfl (bT (pop_or_and a b)) ?_
      refine RL.callP rfl hH146 (c_clearancelaw01_alive   _ (hT.hp hH146)) (run_call0 Tryd.call12) ?_
      intro w148 hH149
      refine RL.val rfl (run_pickT (bT (pop_or_and a b)) (v := B _) rfl) ?_
      refine RL.val rfl (run_assign (v := B _) rfl) ?_
      refine RL.nil ?_
      refine CW.ret ?_
      refine outP1 Tryd.results7 (congrArg B ?_) hH149.below
      rfl

theorem c_clearancelaw01_MaskLists (s : BitVec 64) (k : Int) (hk : -9223372036854775808 ≤ k ∧ k ≤ 9223372036854775807) (w : World) (hT : Tab w) : Calls Tryd.prog 4 #[U s, I k] w (Pure (B true) w) := by
  have hl := lst_len s
  refine enter Tryd.func4 rfl Tryd.ntmps4 rfl ?_
  have hH := Hp.start w
  refine CW.seq ?_
  refine CW.region ?_
  refine RL.val rfl (run_assign (v := B false) rfl) ?_
  refine RL.nil ?_
  refine CW.seq ?_
  refine CW.region ?_
  refine RL.val rfl (run_move (v := U _) rfl) ?_
  refine RL.callR rfl hH (c_clearanceref01_List _  _) (run_call1 Tryd.call10 rfl) ?_
  intro v3 w1 hH2
  refine RL.val rfl (run_assign (by conv => lhs; whnf)) ?_
  refine RL.nil ?_
  refine CW.seq ?_
  refine CW.region ?_
  refine RL.val rfl (run_move (v := U _) rfl) ?_
  refine RL.callP rfl hH2 (c_mask_Least _  _ (hT.hp hH2)) (run_call1 Tryd.call13 rfl) ?_
  intro w4 hH5
  refine RL.val rfl (run_move (by conv => lhs; whnf)) ?_
  refine RL.val rfl (run_extract rfl (v := I _) rfl) ?_
  refine RL.val rfl (run_extract rfl (v := B _) rfl) ?_
  refine RL.val rfl (run_assign (v := I _) rfl) ?_
  refine RL.val rfl (run_assign (v := B _) rfl) ?_
  refine RL.nil ?_
  refine CW.seq ?_
  refine CW.region ?_
  refine RL.val rfl (run_move (v := U _) rfl) ?_
  refine RL.val rfl (run_move (v := I _) rfl) ?_
  refine RL.callP rfl hH5 (c_mask_Nth _ _ (by first | decide | assumption | omega) _ (hT.hp hH5)) (run_call2 Tryd.call14 rfl rfl) ?_
  intro w7 hH8
  refine RL.val rfl (run_move (by conv => lhs; whnf)) ?_
  refine RL.val rfl (run_extract rfl (v := I _) rfl) ?_
  refine RL.val rfl (run_extract rfl (v := B _) rfl) ?_
  refine RL.val rfl (run_assign (v := I _) rfl) ?_
  refine RL.val rfl (run_assign (v := B _) rfl) ?_
  refine RL.nil ?_
  refine CW.seq ?_
  refine CW.seq ?_
  refine CW.region ?_
  refine RL.val rfl (run_move (v := B _) rfl) ?_
  refine RL.val rfl (run_move (by conv => lhs; whnf)) ?_
  refine RL.val rfl (run_lenSl (hH8.sl (i := 0) rfl) rfl Tryd.underlying23 rfl) ?_
  refine RL.val rfl (run_gtr rfl rfl) ?_
  refine RL.val rfl (run_neqB Tryd.underlying4 rfl rfl) ?_
  refine RL.val rfl (run_move (v := B _) rfl) ?_
  refine RL.gT rfl (bR (c := false) (by rw [least_flag]; simp)) ?_
  refine RL.val rfl (run_move (v := B _) rfl) ?_
  refine RL.gT rfl (bR (c := false) (by rw [least_flag]; simp)) ?_
  refine RL.val rfl (run_move (v := B _) rfl) ?_
  refine RL.split (dj := 31) rfl (fun h12 => ?_) (fun h12 => ?_)
  · refine RL.gT rfl (bR (c := true) h12) ?_
    refine RL.val rfl (run_move (v := I _) rfl) ?_
    refine RL.gT rfl (bR (c := true) h12) ?_
    refine RL.val rfl (run_move (by conv => lhs; whnf)) ?_
    refine RL.gT rfl (bR (c := true) h12) ?_
    refine RL.val rfl (run_indexAddrS (hH8.sl (i := 0) rfl) Tryd.underlying23 Tryd.sizeOf3 rfl rfl (by first | exact ⟨by omega, by have := least_len ‹(leastv s).2 = true›; omega⟩ | omega)) ?_
    refine RL.gT rfl (bR (c := true) h12) ?_
    refine RL.val rfl (run_ld Tryd.underlying3 rfl rfl ((hH8.sl (i := 0) rfl).cell _ _ (map_at (by first | exact ⟨by omega, by have := least_len ‹(leastv s).2 = true›; omega⟩ | omega)))) ?_
    refine RL.gT rfl (bR (c := true) h12) ?_
    refine RL.val rfl (run_neq rfl rfl) ?_
    refine RL.gT rfl (bR (c := false) (by rw [least_flag]; simp)) ?_
    refine RL.val rfl (run_pickT (bR (c := true) h12) (v := B _) rfl) ?_
    refine RL.val rfl (run_pickF (bR (c := false) (by rw [least_flag]; simp)) (v := B _) rfl) ?_
    refine RL.val rfl (run_move (v := B _) rfl) ?_
    refine RL.gT rfl (bF (fun h => h (least_val ‹(leastv s).2 = true›))) ?_
    refine RL.val rfl (run_move (v := B _) rfl) ?_
    refine RL.gT rfl (bF (fun h => h (least_val ‹(leastv s).2 = true›))) ?_
    refine RL.val rfl (run_not (bR (c := true) h12)) ?_
    refine RL.gT rfl (bF (fun h => h (least_val ‹(leastv s).2 = true›))) ?_
    refine RL.val rfl (run_move (v := B _) rfl) ?_
    refine RL.gF rfl rfl rfl rfl ?_
    refine RL.gF rfl rfl rfl rfl ?_
    refine RL.gT rfl (bF (fun h => h (least_val ‹(leastv s).2 = true›))) ?_
    refine RL.val rfl (run_pickF rfl (v := B false) rfl) ?_
    refine RL.val rfl (run_pickF (bF (fun h => h (least_val ‹(leastv s).2 = true›))) (v := B _) rfl) ?_
    refine RL.nil ?_
    refine CW.condF rfl ?_
    refine CW.skip ?_
    refine CW.seq ?_
    refine CW.region ?_
    refine RL.val rfl (run_move (v := I _) rfl) ?_
    refine RL.val rfl (run_geq rfl rfl) ?_
    refine RL.val rfl (run_move (v := B _) rfl) ?_
    refine RL.splitP (dj := 49) rfl (fun h15 => ?_) (fun h15 => ?_)
    · refine RL.gT rfl (bT h15) ?_
      refine RL.val rfl (run_move (v := I _) rfl) ?_
      refine RL.gT rfl (bT h15) ?_
      refine RL.val rfl (run_move (by conv => lhs; whnf)) ?_
      refine RL.gT rfl (bT h15) ?_
      refine RL.val rfl (run_lenSl (hH8.sl (i := 0) rfl) rfl Tryd.underlying23 rfl) ?_
      refine RL.gT rfl (bT h15) ?_
      refine RL.val rfl (run_lss rfl rfl) ?_
      refine RL.val rfl (run_pickT (bT h15) (v := B _) rfl) ?_
      refine RL.val rfl (run_assign (v := B _) rfl) ?_
      refine RL.nil ?_
      refine CW.seq ?_
      refine CW.seq ?_
      refine CW.region ?_
      refine RL.val rfl (run_move (v := B _) rfl) ?_
      refine RL.val rfl (run_move (v := B _) rfl) ?_
      refine RL.val rfl (run_neqB Tryd.underlying4 rfl rfl) ?_
      refine RL.val rfl (run_move (v := B _) rfl) ?_
      refine RL.gT rfl (bR (c := false) (by rw [nth_flag]; simp [*])) ?_
      refine RL.val rfl (run_move (v := B _) rfl) ?_
      refine RL.gT rfl (bR (c := false) (by rw [nth_flag]; simp [*])) ?_
      refine RL.val rfl (run_move (v := B _) rfl) ?_
      refine RL.splitP (dj := 60) rfl (fun h18 => ?_) (fun h18 => ?_)
      · refine RL.gT rfl (bT h18) ?_
        refine RL.val rfl (run_move (v := I _) rfl) ?_
        refine RL.gT rfl (bT h18) ?_
        refine RL.val rfl (run_move (by conv => lhs; whnf)) ?_
        refine RL.gT rfl (bT h18) ?_
        refine RL.val rfl (run_move (v := I _) rfl) ?_
        refine RL.gT rfl (bT h18) ?_
        refine RL.val rfl (run_indexAddrS (hH8.sl (i := 0) rfl) Tryd.underlying23 Tryd.sizeOf3 rfl rfl (by first | exact ⟨by omega, by have := least_len ‹(leastv s).2 = true›; omega⟩ | omega)) ?_
        refine RL.gT rfl (bT h18) ?_
        refine RL.val rfl (run_ld Tryd.underlying3 rfl rfl ((hH8.sl (i := 0) rfl).cell _ _ (map_at (by first | exact ⟨by omega, by have := least_len ‹(leastv s).2 = true›; omega⟩ | omega)))) ?_
        refine RL.gT rfl (bT h18) ?_
        refine RL.val rfl (run_neq rfl rfl) ?_
        refine RL.gT rfl (bR (c := false) (by rw [nth_flag]; simp [*])) ?_
        refine RL.val rfl (run_pickT (bT h18) (v := B _) rfl) ?_
        refine RL.val rfl (run_pickF (bR (c := false) (by rw [nth_flag]; simp [*])) (v := B _) rfl) ?_
        refine RL.val rfl (run_move (v := B _) rfl) ?_
        refine RL.gT rfl (bF (fun h => h (nth_yes ‹0 ≤ k› ‹k < _›))) ?_
        refine RL.val rfl (run_move (v := B _) rfl) ?_
        refine RL.gT rfl (bF (fun h => h (nth_yes ‹0 ≤ k› ‹k < _›))) ?_
        refine RL.val rfl (run_not (bT h18)) ?_
        refine RL.gT rfl (bF (fun h => h (nth_yes ‹0 ≤ k› ‹k < _›))) ?_
        refine RL.val rfl (run_move (v := B _) rfl) ?_
        refine RL.gF rfl rfl rfl rfl ?_
        refine RL.gF rfl rfl rfl rfl ?_
        refine RL.gT rfl (bF (fun h => h (nth_yes ‹0 ≤ k› ‹k < _›))) ?_
        refine RL.val rfl (run_pickF rfl (v := B false) rfl) ?_
        refine RL.val rfl (run_pickF (bF (fun h => h (nth_yes ‹0 ≤ k› ‹k < _›))) (v := B _) rfl) ?_
        refine RL.nil ?_
        refine CW.condF rfl ?_
        refine CW.skip ?_
        refine CW.seq ?_
        refine CW.region ?_
        refine RL.val rfl (run_move (v := U _) rfl) ?_
        refine RL.callR rfl hH8 (c_mask_List _  _ (hT.hp hH8)) (run_call1 Tryd.call15 rfl) ?_
        intro v22 w20 hH21
        refine RL.val rfl (run_move (by conv => lhs; whnf)) ?_
        refine RL.callP rfl hH21 (c_clearanceref01_Ints _ _ _ _  _ (hH21.sl (i := 0) rfl) (hH21.sl (i := 1) rfl)) (run_call2 Tryd.call11 rfl rfl) ?_
        intro w23 hH24
        refine RL.val rfl (run_move (v := B _) rfl) ?_
        refine RL.gT rfl (bT (rfl)) ?_
        refine RL.callP rfl hH24 (c_clearancelaw01_alive   _ (hT.hp hH24)) (run_call0 Tryd.call12) ?_
        intro w27 hH28
        refine RL.val rfl (run_pickT (bT (rfl)) (v := B _) rfl) ?_
        refine RL.val rfl (run_assign (v := B _) rfl) ?_
        refine RL.nil ?_
        refine CW.ret ?_
        refine outP1 Tryd.results4 (congrArg B ?_) hH28.below
        rfl
      · refine RL.gF rfl rfl (bF h18) rfl ?_
        refine RL.gF rfl rfl (bF h18) rfl ?_
        refine RL.gF rfl rfl (bF h18) rfl ?_
        refine RL.gF rfl rfl (bF h18) rfl ?_
        refine RL.gF rfl rfl (bF h18) rfl ?_
        refine RL.gF rfl rfl (bF h18) rfl ?_
        refine RL.gT rfl (bR (c := false) (by rw [nth_flag]; simp [*])) ?_
        refine RL.val rfl (run_pickF (bF h18) (v := B false) rfl) ?_
        refine RL.val rfl (run_pickF (bR (c := false) (by rw [nth_flag]; simp [*])) (v := B _) rfl) ?_
        refine RL.val rfl (run_move (v := B _) rfl) ?_
        refine RL.gT rfl rfl ?_
        refine RL.val rfl (run_move (v := B _) rfl) ?_
        refine RL.gT rfl rfl ?_
        refine RL.val rfl (run_not (bF h18)) ?_
        refine RL.gT rfl rfl ?_
        refine RL.val rfl (run_move (v := B _) rfl) ?_
        refine RL.gT rfl rfl ?_
        refine RL.val rfl (run_move (v := I _) rfl) ?_
        refine RL.gT rfl rfl ?_
        refine RL.val rfl (run_neq rfl rfl) ?_
        refine RL.gT rfl rfl ?_
        refine RL.val rfl (run_pickT rfl (v := B _) rfl) ?_
        refine RL.val rfl (run_pickF rfl (v := B _) rfl) ?_
        refine RL.nil ?_
        refine CW.condF (bF (fun h => h (nth_no (by omega)))) ?_
        refine CW.skip ?_
        refine CW.seq ?_
        refine CW.region ?_
        refine RL.val rfl (run_move (v := U _) rfl) ?_
        refine RL.callR rfl hH8 (c_mask_List _  _ (hT.hp hH8)) (run_call1 Tryd.call15 rfl) ?_
        intro v33 w31 hH32
        refine RL.val rfl (run_move (by conv => lhs; whnf)) ?_
        refine RL.callP rfl hH32 (c_clearanceref01_Ints _ _ _ _  _ (hH32.sl (i := 0) rfl) (hH32.sl (i := 1) rfl)) (run_call2 Tryd.call11 rfl rfl) ?_
        intro w34 hH35
        refine RL.val rfl (run_move (v := B _) rfl) ?_
        refine RL.gT rfl (bT (rfl)) ?_
        refine RL.callP rfl hH35 (c_clearancelaw01_alive   _ (hT.hp hH35)) (run_call0 Tryd.call12) ?_
        intro w38 hH39
        refine RL.val rfl (run_pickT (bT (rfl)) (v := B _) rfl) ?_
        refine RL.val rfl (run_assign (v := B _) rfl) ?_
        refine RL.nil ?_
        refine CW.ret ?_
        refine outP1 Tryd.results4 (congrArg B ?_) hH39.below
        rfl
    · refine RL.gF rfl rfl (bF h15) rfl ?_
      refine RL.gF rfl rfl (bF h15) rfl ?_
      refine RL.gF rfl rfl (bF h15) rfl ?_
      refine RL.gF rfl rfl (bF h15) rfl ?_
      refine RL.val rfl (run_pickF (bF h15) (v := B false) rfl) ?_
      refine RL.val rfl (run_assign (v := B _) rfl) ?_
      refine RL.nil ?_
      refine CW.seq ?_
      refine CW.seq ?_
      refine CW.region ?_
      refine RL.val rfl (run_move (v := B _) rfl) ?_
      refine RL.val rfl (run_move (v := B _) rfl) ?_
      refine RL.val rfl (run_neqB Tryd.underlying4 rfl rfl) ?_
      refine RL.val rfl (run_move (v := B _) rfl) ?_
      refine RL.gT rfl (bR (c := false) (by rw [nth_flag]; simp [*])) ?_
      refine RL.val rfl (run_move (v := B _) rfl) ?_
      refine RL.gT rfl (bR (c := false) (by rw [nth_flag]; simp [*])) ?_
      refine RL.val rfl (run_move (v := B _) rfl) ?_
      refine RL.gF rfl rfl rfl rfl ?_
      refine RL.gF rfl rfl rfl rfl ?_
      refine RL.gF rfl rfl rfl rfl ?_
      refine RL.gF rfl rfl rfl rfl ?_
      refine RL.gF rfl rfl rfl rfl ?_
      refine RL.gF rfl rfl rfl rfl ?_
      refine RL.gT rfl (bR (c := false) (by rw [nth_flag]; simp [*])) ?_
      refine RL.val rfl (run_pickF rfl (v := B false) rfl) ?_
      refine RL.val rfl (run_pickF (bR (c := false) (by rw [nth_flag]; simp [*])) (v := B _) rfl) ?_
      refine RL.val rfl (run_move (v := B _) rfl) ?_
      refine RL.gT rfl rfl ?_
      refine RL.val rfl (run_move (v := B _) rfl) ?_
      refine RL.gT rfl rfl ?_
      refine RL.val rfl (run_not rfl) ?_
      refine RL.gT rfl rfl ?_
      refine RL.val rfl (run_move (v := B _) rfl) ?_
      refine RL.gT rfl rfl ?_
      refine RL.val rfl (run_move (v := I _) rfl) ?_
      refine RL.gT rfl rfl ?_
      refine RL.val rfl (run_neq rfl rfl) ?_
      refine RL.gT rfl rfl ?_
      refine RL.val rfl (run_pickT rfl (v := B _) rfl) ?_
      refine RL.val rfl (run_pickF rfl (v := B _) rfl) ?_
      refine RL.nil ?_
      refine CW.condF (bF (fun h => h (nth_no (by omega)))) ?_
      refine CW.skip ?_
      refine CW.seq ?_
      refine CW.region ?_
      refine RL.val rfl (run_move (v := U _) rfl) ?_
      refine RL.callR rfl hH8 (c_mask_List _  _ (hT.hp hH8)) (run_call1 Tryd.call15 rfl) ?_
      intro v45 w43 hH44
      refine RL.val rfl (run_move (by conv => lhs; whnf)) ?_
      refine RL.callP rfl hH44 (c_clearanceref01_Ints _ _ _ _  _ (hH44.sl (i := 0) rfl) (hH44.sl (i := 1) rfl)) (run_call2 Tryd.call11 rfl rfl) ?_
      intro w46 hH47
      refine RL.val rfl (run_move (v := B _) rfl) ?_
      refine RL.gT rfl (bT (rfl)) ?_
      refine RL.callP rfl hH47 (c_clearancelaw01_alive   _ (hT.hp hH47)) (run_call0 Tryd.call12) ?_
      intro w50 hH51
      refine RL.val rfl (run_pickT (bT (rfl)) (v := B _) rfl) ?_
      refine RL.val rfl (run_assign (v := B _) rfl) ?_
      refine RL.nil ?_
      refine CW.ret ?_
      refine outP1 Tryd.results4 (congrArg B ?_) hH51.below
      rfl
  · refine RL.gF rfl rfl (bR (c := false) h12) rfl ?_
    refine RL.gF rfl rfl (bR (c := false) h12) rfl ?_
    refine RL.gF rfl rfl (bR (c := false) h12) rfl ?_
    refine RL.gF rfl rfl (bR (c := false) h12) rfl ?_
    refine RL.gF rfl rfl (bR (c := false) h12) rfl ?_
    refine RL.gT rfl (bR (c := false) (by rw [least_flag]; simp)) ?_
    refine RL.val rfl (run_pickF (bR (c := false) h12) (v := B false) rfl) ?_
    refine RL.val rfl (run_pickF (bR (c := false) (by rw [least_flag]; simp)) (v := B _) rfl) ?_
    refine RL.val rfl (run_move (v := B _) rfl) ?_
    refine RL.gT rfl rfl ?_
    refine RL.val rfl (run_move (v := B _) rfl) ?_
    refine RL.gT rfl rfl ?_
    refine RL.val rfl (run_not (bR (c := false) h12)) ?_
    refine RL.gT rfl rfl ?_
    refine RL.val rfl (run_move (v := B _) rfl) ?_
    refine RL.gT rfl rfl ?_
    refine RL.val rfl (run_move (v := I _) rfl) ?_
    refine RL.gT rfl rfl ?_
    refine RL.val rfl (run_neq rfl rfl) ?_
    refine RL.gT rfl rfl ?_
    refine RL.val rfl (run_pickT rfl (v := B _) rfl) ?_
    refine RL.val rfl (run_pickF rfl (v := B _) rfl) ?_
    refine RL.nil ?_
    refine CW.condF (bF (fun h => h (least_no ‹(leastv s).2 = false›))) ?_
    refine CW.skip ?_
    refine CW.seq ?_
    refine CW.region ?_
    refine RL.val rfl (run_move (v := I _) rfl) ?_
    refine RL.val rfl (run_geq rfl rfl) ?_
    refine RL.val rfl (run_move (v := B _) rfl) ?_
    refine RL.splitP (dj := 49) rfl (fun h55 => ?_) (fun h55 => ?_)
    · refine RL.gT rfl (bT h55) ?_
      refine RL.val rfl (run_move (v := I _) rfl) ?_
      refine RL.gT rfl (bT h55) ?_
      refine RL.val rfl (run_move (by conv => lhs; whnf)) ?_
      refine RL.gT rfl (bT h55) ?_
      refine RL.val rfl (run_lenSl (hH8.sl (i := 0) rfl) rfl Tryd.underlying23 rfl) ?_
      refine RL.gT rfl (bT h55) ?_
      refine RL.val rfl (run_lss rfl rfl) ?_
      refine RL.val rfl (run_pickT (bT h55) (v := B _) rfl) ?_
      refine RL.val rfl (run_assign (v := B _) rfl) ?_
      refine RL.nil ?_
      refine CW.seq ?_
      refine CW.seq ?_
      refine CW.region ?_
      refine RL.val rfl (run_move (v := B _) rfl) ?_
      refine RL.val rfl (run_move (v := B _) rfl) ?_
      refine RL.val rfl (run_neqB Tryd.underlying4 rfl rfl) ?_
      refine RL.val rfl (run_move (v := B _) rfl) ?_
      refine RL.gT rfl (bR (c := false) (by rw [nth_flag]; simp [*])) ?_
      refine RL.val rfl (run_move (v := B _) rfl) ?_
      refine RL.gT rfl (bR (c := false) (by rw [nth_flag]; simp [*])) ?_
      refine RL.val rfl (run_move (v := B _) rfl) ?_
      refine RL.splitP (dj := 60) rfl (fun h58 => ?_) (fun h58 => ?_)
      · refine RL.gT rfl (bT h58) ?_
        refine RL.val rfl (run_move (v := I _) rfl) ?_
        refine RL.gT rfl (bT h58) ?_
        refine RL.val rfl (run_move (by conv => lhs; whnf)) ?_
        refine RL.gT rfl (bT h58) ?_
        refine RL.val rfl (run_move (v := I _) rfl) ?_
        refine RL.gT rfl (bT h58) ?_
        refine RL.val rfl (run_indexAddrS (hH8.sl (i := 0) rfl) Tryd.underlying23 Tryd.sizeOf3 rfl rfl (by first | exact ⟨by omega, by have := least_len ‹(leastv s).2 = true›; omega⟩ | omega)) ?_
        refine RL.gT rfl (bT h58) ?_
        refine RL.val rfl (run_ld Tryd.underlying3 rfl rfl ((hH8.sl (i := 0) rfl).cell _ _ (map_at (by first | exact ⟨by omega, by have := least_len ‹(leastv s).2 = true›; omega⟩ | omega)))) ?_
        refine RL.gT rfl (bT h58) ?_
        refine RL.val rfl (run_neq rfl rfl) ?_
        refine RL.gT rfl (bR (c := false) (by rw [nth_flag]; simp [*])) ?_
        refine RL.val rfl (run_pickT (bT h58) (v := B _) rfl) ?_
        refine RL.val rfl (run_pickF (bR (c := false) (by rw [nth_flag]; simp [*])) (v := B _) rfl) ?_
        refine RL.val rfl (run_move (v := B _) rfl) ?_
        refine RL.gT rfl (bF (fun h => h (nth_yes ‹0 ≤ k› ‹k < _›))) ?_
        refine RL.val rfl (run_move (v := B _) rfl) ?_
        refine RL.gT rfl (bF (fun h => h (nth_yes ‹0 ≤ k› ‹k < _›))) ?_
        refine RL.val rfl (run_not (bT h58)) ?_
        refine RL.gT rfl (bF (fun h => h (nth_yes ‹0 ≤ k› ‹k < _›))) ?_
        refine RL.val rfl (run_move (v := B _) rfl) ?_
        refine RL.gF rfl rfl rfl rfl ?_
        refine RL.gF rfl rfl rfl rfl ?_
        refine RL.gT rfl (bF (fun h => h (nth_yes ‹0 ≤ k› ‹k < _›))) ?_
        refine RL.val rfl (run_pickF rfl (v := B false) rfl) ?_
        refine RL.val rfl (run_pickF (bF (fun h => h (nth_yes ‹0 ≤ k› ‹k < _›))) (v := B _) rfl) ?_
        refine RL.nil ?_
        refine CW.condF rfl ?_
        refine CW.skip ?_
        refine CW.seq ?_
        refine CW.region ?_
        refine RL.val rfl (run_move (v := U _) rfl) ?_
        refine RL.callR rfl hH8 (c_mask_List _  _ (hT.hp hH8)) (run_call1 Tryd.call15 rfl) ?_
        intro v62 w60 hH61
        refine RL.val rfl (run_move (by conv => lhs; whnf)) ?_
        refine RL.callP rfl hH61 (c_clearanceref01_Ints _ _ _ _  _ (hH61.sl (i := 0) rfl) (hH61.sl (i := 1) rfl)) (run_call2 Tryd.call11 rfl rfl) ?_
        intro w63 hH64
        refine RL.val rfl (run_move (v := B _) rfl) ?_
        refine RL.gT rfl (bT (rfl)) ?_
        refine RL.callP rfl hH64 (c_clearancelaw01_alive   _ (hT.hp hH64)) (run_call0 Tryd.call12) ?_
        intro w67 hH68
        refine RL.val rfl (run_pickT (bT (rfl)) (v := B _) rfl) ?_
        refine RL.val rfl (run_assign (v := B _) rfl) ?_
        refine RL.nil ?_
        refine CW.ret ?_
        refine outP1 Tryd.results4 (congrArg B ?_) hH68.below
        rfl
      · refine RL.gF rfl rfl (bF h58) rfl ?_
        refine RL.gF rfl rfl (bF h58) rfl ?_
        refine RL.gF rfl rfl (bF h58) rfl ?_
        refine RL.gF rfl rfl (bF h58) rfl ?_
        refine RL.gF rfl rfl (bF h58) rfl ?_
        refine RL.gF rfl rfl (bF h58) rfl ?_
        refine RL.gT rfl (bR (c := false) (by rw [nth_flag]; simp [*])) ?_
        refine RL.val rfl (run_pickF (bF h58) (v := B false) rfl) ?_
        refine RL.val rfl (run_pickF (bR (c := false) (by rw [nth_flag]; simp [*])) (v := B _) rfl) ?_
        refine RL.val rfl (run_move (v := B _) rfl) ?_
        refine RL.gT rfl rfl ?_
        refine RL.val rfl (run_move (v := B _) rfl) ?_
        refine RL.gT rfl rfl ?_
        refine RL.val rfl (run_not (bF h58)) ?_
        refine RL.gT rfl rfl ?_
        refine RL.val rfl (run_move (v := B _) rfl) ?_
        refine RL.gT rfl rfl ?_
        refine RL.val rfl (run_move (v := I _) rfl) ?_
        refine RL.gT rfl rfl ?_
        refine RL.val rfl (run_neq rfl rfl) ?_
        refine RL.gT rfl rfl ?_
        refine RL.val rfl (run_pickT rfl (v := B _) rfl) ?_
        refine RL.val rfl (run_pickF rfl (v := B _) rfl) ?_
        refine RL.nil ?_
        refine CW.condF (bF (fun h => h (nth_no (by omega)))) ?_
        refine CW.skip ?_
        refine CW.seq ?_
        refine CW.region ?_
        refine RL.val rfl (run_move (v := U _) rfl) ?_
        refine RL.callR rfl hH8 (c_mask_List _  _ (hT.hp hH8)) (run_call1 Tryd.call15 rfl) ?_
        intro v73 w71 hH72
        refine RL.val rfl (run_move (by conv => lhs; whnf)) ?_
        refine RL.callP rfl hH72 (c_clearanceref01_Ints _ _ _ _  _ (hH72.sl (i := 0) rfl) (hH72.sl (i := 1) rfl)) (run_call2 Tryd.call11 rfl rfl) ?_
        intro w74 hH75
        refine RL.val rfl (run_move (v := B _) rfl) ?_
        refine RL.gT rfl (bT (rfl)) ?_
        refine RL.callP rfl hH75 (c_clearancelaw01_alive   _ (hT.hp hH75)) (run_call0 Tryd.call12) ?_
        intro w78 hH79
        refine RL.val rfl (run_pickT (bT (rfl)) (v := B _) rfl) ?_
        refine RL.val rfl (run_assign (v := B _) rfl) ?_
        refine RL.nil ?_
        refine CW.ret ?_
        refine outP1 Tryd.results4 (congrArg B ?_) hH79.below
        rfl
    · refine RL.gF rfl rfl (bF h55) rfl ?_
      refine RL.gF rfl rfl (bF h55) rfl ?_
      refine RL.gF rfl rfl (bF h55) rfl ?_
      refine RL.gF rfl rfl (bF h55) rfl ?_
      refine RL.val rfl (run_pickF (bF h55) (v := B false) rfl) ?_
      refine RL.val rfl (run_assign (v := B _) rfl) ?_
      refine RL.nil ?_
      refine CW.seq ?_
      refine CW.seq ?_
      refine CW.region ?_
      refine RL.val rfl (run_move (v := B _) rfl) ?_
      refine RL.val rfl (run_move (v := B _) rfl) ?_
      refine RL.val rfl (run_neqB Tryd.underlying4 rfl rfl) ?_
      refine RL.val rfl (run_move (v := B _) rfl) ?_
      refine RL.gT rfl (bR (c := false) (by rw [nth_flag]; simp [*])) ?_
      refine RL.val rfl (run_move (v := B _) rfl) ?_
      refine RL.gT rfl (bR (c := false) (by rw [nth_flag]; simp [*])) ?_
      refine RL.val rfl (run_move (v := B _) rfl) ?_
      refine RL.gF rfl rfl rfl rfl ?_
      refine RL.gF rfl rfl rfl rfl ?_
      refine RL.gF rfl rfl rfl rfl ?_
      refine RL.gF rfl rfl rfl rfl ?_
      refine RL.gF rfl rfl rfl rfl ?_
      refine RL.gF rfl rfl rfl rfl ?_
      refine RL.gT rfl (bR (c := false) (by rw [nth_flag]; simp [*])) ?_
      refine RL.val rfl (run_pickF rfl (v := B false) rfl) ?_
      refine RL.val rfl (run_pickF (bR (c := false) (by rw [nth_flag]; simp [*])) (v := B _) rfl) ?_
      refine RL.val rfl (run_move (v := B _) rfl) ?_
      refine RL.gT rfl rfl ?_
      refine RL.val rfl (run_move (v := B _) rfl) ?_
      refine RL.gT rfl rfl ?_
      refine RL.val rfl (run_not rfl) ?_
      refine RL.gT rfl rfl ?_
      refine RL.val rfl (run_move (v := B _) rfl) ?_
      refine RL.gT rfl rfl ?_
      refine RL.val rfl (run_move (v := I _) rfl) ?_
      refine RL.gT rfl rfl ?_
      refine RL.val rfl (run_neq rfl rfl) ?_
      refine RL.gT rfl rfl ?_
      refine RL.val rfl (run_pickT rfl (v := B _) rfl) ?_
      refine RL.val rfl (run_pickF rfl (v := B _) rfl) ?_
      refine RL.nil ?_
      refine CW.condF (bF (fun h => h (nth_no (by omega)))) ?_
      refine CW.skip ?_
      refine CW.seq ?_
      refine CW.region ?_
      refine RL.val rfl (run_move (v := U _) rfl) ?_
      refine RL.callR rfl hH8 (c_mask_List _  _ (hT.hp hH8)) (run_call1 Tryd.call15 rfl) ?_
      intro v85 w83 hH84
      refine RL.val rfl (run_move (by conv => lhs; whnf)) ?_
      refine RL.callP rfl hH84 (c_clearanceref01_Ints _ _ _ _  _ (hH84.sl (i := 0) rfl) (hH84.sl (i := 1) rfl)) (run_call2 Tryd.call11 rfl rfl) ?_
      intro w86 hH87
      refine RL.val rfl (run_move (v := B _) rfl) ?_
      refine RL.gT rfl (bT (rfl)) ?_
      refine RL.callP rfl hH87 (c_clearancelaw01_alive   _ (hT.hp hH87)) (run_call0 Tryd.call12) ?_
      intro w90 hH91
      refine RL.val rfl (run_pickT (bT (rfl)) (v := B _) rfl) ?_
      refine RL.val rfl (run_assign (v := B _) rfl) ?_
      refine RL.nil ?_
      refine CW.ret ?_
      refine outP1 Tryd.results4 (congrArg B ?_) hH91.below
      rfl

theorem c_clearancelaw01_MaskEach_1 (W0 : World) (bk bv : Nat) (k i : Int) (v : Value) (l : List Int) (w : World) (hH : Hp W0 w [.row v 3 1 l.length (l.map I), .blk bv (.cells #[v] 23 (0, 0)), .blk bk (.cells #[I k] 3 (0, 0))]) (hlen : l.length ≤ 64) : Calls Tryd.prog 9 #[I i, .pointer (some ⟨bv, 0, none⟩), .pointer (some ⟨bk, 0, none⟩)] w (Ret fun u w' => u = B (decide (((l.length + 1 : Nat) : Int) < k)) ∧ ∃ v', Hp W0 w' [.row v' 3 1 (l ++ [i]).length ((l ++ [i]).map I), .blk bv (.cells #[v'] 23 (0, 0)), .blk bk (.cells #[I k] 3 (0, 0))]) := by
  refine enter Tryd.func9 rfl Tryd.ntmps9 rfl ?_
  refine CW.seq ?_
  refine CW.region ?_
  refine RL.val rfl (run_assign (v := B false) rfl) ?_
  refine RL.nil ?_
  refine CW.seq ?_
  refine CW.region ?_
  refine RL.val rfl (run_ld Tryd.underlying23 rfl rfl (hH.cell (i := 1) rfl rfl)) ?_
  refine RL.val rfl (run_move (v := I _) rfl) ?_
  refine RL.new rfl hH (f := fun b => (.slice (some ⟨b, 0, none⟩) 1 1)) (run_mkL Tryd.underlying23 rfl rfl (sz := 1) (vs := [I _]) rfl rfl (by decide) (by decide) rfl rfl) ?_
  intro b3 w1 hH2
  simp only [List.flatMap_cons, List.flatMap_nil, clI, clB, clS, clP, clL, clA, List.append_nil, List.cons_append, List.nil_append] at hH2
  refine RL.app rfl hH2 (i := 1) rfl (hH2.slBlk (i := 0) (n := 1) (sz := 1) rfl rfl (by decide)) rfl rfl Tryd.underlying23 rfl rfl (size := 1) (bytes := 8) rfl rfl rfl (by decide) (by simp [Value.oneCell']) (by omega) (by simp only [maxLen]; omega) ?_
  intro v4 w5 hH6
  simp only [List.set_cons_zero, List.set_cons_succ] at hH6
  refine RL.set hH6 (i := 2) rfl (run_st rfl rfl (by conv => lhs; whnf) (row_cells (hH6.get (i := 1) rfl)).1 (row_cells (hH6.get (i := 1) rfl)).2 (hH6.blk (i := 2) rfl) (by first | decide | simp)) ?_
  intro w7 hH8
  simp only [List.set_cons_zero, List.set_cons_succ] at hH8
  refine RL.nil ?_
  refine CW.seq ?_
  refine CW.region ?_
  refine RL.val rfl (run_ld Tryd.underlying23 rfl rfl (hH8.cell (i := 2) rfl rfl)) ?_
  refine RL.val rfl (run_lenSl (hH8.sl (i := 1) rfl) rfl Tryd.underlying23 rfl) ?_
  refine RL.val rfl (run_ld Tryd.underlying3 rfl rfl (hH8.cell (i := 3) rfl (v := I _) rfl)) ?_
  refine RL.val rfl (run_lss rfl rfl) ?_
  refine RL.val rfl (run_assign (v := B _) rfl) ?_
  refine RL.nil ?_
  refine CW.ret ?_
  exact out1 Tryd.results9 rfl ⟨rfl, (v4 : Value), Hp.conv hH8.tail (by simp)⟩

theorem c_clearancelaw01_MaskEach (s : BitVec 64) (k : Int) (hk : -9223372036854775808 ≤ k ∧ k ≤ 9223372036854775807) (w : World) (hT : Tab w) : Calls Tryd.prog 3 #[U s, I k] w (Pure (B true) w) := by
  have hl := lst_len s
  refine enter Tryd.func3 rfl Tryd.ntmps3 rfl ?_
  have hH := Hp.start w
  refine CW.seq ?_
  refine CW.region ?_
  refine RL.new rfl hH (f := fun b => (.pointer (some ⟨b, 0, none⟩))) (run_box (v := I _) rfl) ?_
  intro b3 w1 hH2
  refine RL.val rfl (run_assign (v := B false) rfl) ?_
  refine RL.nil ?_
  refine CW.seq ?_
  refine CW.region ?_
  refine RL.new rfl hH2 (f := fun b => (.pointer (some ⟨b, 0, none⟩))) (run_alloc Tryd.zeroValue23) ?_
  intro b6 w4 hH5
  have hH7 := hH5.nilRow 3 1
  refine RL.nil ?_
  refine CW.seq ?_
  refine CW.region ?_
  refine RL.val rfl (run_move (v := U _) rfl) ?_
  refine RL.val rfl (run_mkF2 (by conv => lhs; whnf) (by conv => lhs; whnf)) ?_
  refine RL.call rfl (run_call2 Tryd.call8 (v1 := U s) rfl (v2 := .func (.func 9) #[] #[.pointer (some ⟨b6, 0, none⟩), .pointer (some ⟨b3, 0, none⟩)]) rfl) (c_mask_Each 9 _ (fun l w' => (∃ v, Hp w w' [.row v 3 1 l.length (l.map I), .blk b6 (.cells #[v] 23 (0, 0)), .blk b3 (.cells #[I k] 3 (0, 0))]) ∧ (l.length = 0 ∨ (l.length : Int) < k)) (fun L w' => (∃ v, Hp w w' [.row v 3 1 L.length (L.map I), .blk b6 (.cells #[v] 23 (0, 0)), .blk b3 (.cells #[I k] 3 (0, 0))]) ∧ (L.length : Int) = max 1 k) s _ Tryd.call9 (fun l w' w'' h hb => ⟨h.1.imp fun v h => h.call hb, h.2⟩) (fun l w' h => h.1.elim fun v h => hT.hp h) (fun l i r w' he h => h.1.elim fun v hv => by
      have hl64 : l.length ≤ 64 := by have := lst_len s; rw [he] at this; simp at this; omega
      have hc := c_clearancelaw01_MaskEach_1 w b3 b6 k i v l w' hv hl64
      have h2 := h.2
      refine Ret.calls hc ?_
      intro u w2 hq
      exact ⟨_, hq.1, fun hc => ⟨hq.2, .inr (by simpa using hc)⟩, fun hc => ⟨hq.2, by simp at hc; simp; omega⟩⟩) ⟨⟨.slice none 0 0, hH7⟩, .inl rfl⟩) ?_
  rintro u w8 ⟨rfl, hor⟩
  obtain ⟨l, v10, hH9, hcut⟩ : ∃ l v, Hp w w8 [.row v 3 1 l.length (l.map I), .blk b6 (.cells #[v] 23 (0, 0)), .blk b3 (.cells #[I k] 3 (0, 0))] ∧ l = (lst s).take (max 1 k).toNat := by
    rcases hor with ⟨⟨v, h⟩, h2⟩ | ⟨l, i, r, he, ⟨v, h⟩, h2⟩
    · exact ⟨_, v, h, all_take (by omega)⟩
    · exact ⟨_, v, h, pre_take (r := r) (by rw [he]; simp) h2⟩
  refine RL.nil ?_
  refine CW.seq ?_
  refine CW.region ?_
  refine RL.val rfl (run_move (v := U _) rfl) ?_
  refine RL.callR rfl hH9 (c_clearanceref01_List _  _) (run_call1 Tryd.call10 rfl) ?_
  intro v13 w11 hH12
  refine RL.val rfl (run_assign (by conv => lhs; whnf)) ?_
  refine RL.nil ?_
  refine CW.seq ?_
  refine CW.seq ?_
  refine CW.region ?_
  refine RL.val rfl (run_ld Tryd.underlying3 rfl rfl (hH12.cell (i := 3) rfl (v := I _) rfl)) ?_
  refine RL.val rfl (run_maxI rfl rfl) ?_
  refine RL.val rfl (run_assign (v := I _) rfl) ?_
  refine RL.nil ?_
  refine CW.seq ?_
  refine CW.region ?_
  refine RL.val rfl (run_move (v := I _) rfl) ?_
  refine RL.val rfl (run_move (by conv => lhs; whnf)) ?_
  refine RL.val rfl (run_lenSl (hH12.sl (i := 0) rfl) rfl Tryd.underlying23 rfl) ?_
  refine RL.val rfl (run_lss rfl rfl) ?_
  refine RL.nil ?_
  refine CW.condP rfl (fun h15 => ?_) (fun h15 => ?_)
  · refine CW.region ?_
    refine RL.val rfl (run_move (by conv => lhs; whnf)) ?_
    refine RL.val rfl (run_move (v := I _) rfl) ?_
    refine RL.val rfl (run_cut (hH12.sl (i := 0) rfl) Tryd.underlying23 Tryd.sizeOf3 rfl rfl (by omega)) ?_
    refine RL.val rfl (run_assign (by conv => lhs; whnf)) ?_
    refine RL.nil ?_
    refine CW.seq ?_
    refine CW.region ?_
    refine RL.val rfl (run_ld Tryd.underlying23 rfl rfl (hH12.cell (i := 2) rfl rfl)) ?_
    refine RL.val rfl (run_move (by conv => lhs; whnf)) ?_
    refine RL.callP rfl hH12 (c_clearanceref01_Ints _ _ l ((lst s).take (max 1 k).toNat) _ (hH12.sl (i := 1) rfl) (Sl.cutI (hH12.sl (i := 0) rfl) (by omega))) (run_call2 Tryd.call11 rfl rfl) ?_
    intro w16 hH17
    refine RL.val rfl (run_move (v := B _) rfl) ?_
    refine RL.gT rfl (bT (by first | exact hcut | exact hcut.trans (all_take (by omega)).symm)) ?_
    refine RL.callP rfl hH17 (c_clearancelaw01_alive   _ (hT.hp hH17)) (run_call0 Tryd.call12) ?_
    intro w20 hH21
    refine RL.val rfl (run_pickT (bT (by first | exact hcut | exact hcut.trans (all_take (by omega)).symm)) (v := B _) rfl) ?_
    refine RL.val rfl (run_assign (v := B _) rfl) ?_
    refine RL.nil ?_
    refine CW.ret ?_
    refine outP1 Tryd.results3 (congrArg B ?_) hH21.below
    rfl
  · refine CW.skip ?_
    refine CW.seq ?_
    refine CW.region ?_
    refine RL.val rfl (run_ld Tryd.underlying23 rfl rfl (hH12.cell (i := 2) rfl rfl)) ?_
    refine RL.val rfl (run_move (by conv => lhs; whnf)) ?_
    refine RL.callP rfl hH12 (c_clearanceref01_Ints _ _ l (lst s) _ (hH12.sl (i := 1) rfl) (hH12.sl (i := 0) rfl)) (run_call2 Tryd.call11 rfl rfl) ?_
    intro w23 hH24
    refine RL.val rfl (run_move (v := B _) rfl) ?_
    refine RL.gT rfl (bT (by first | exact hcut | exact hcut.trans (all_take (by omega)).symm)) ?_
    refine RL.callP rfl hH24 (c_clearancelaw01_alive   _ (hT.hp hH24)) (run_call0 Tryd.call12) ?_
    intro w27 hH28
    refine RL.val rfl (run_pickT (bT (by first | exact hcut | exact hcut.trans (all_take (by omega)).symm)) (v := B _) rfl) ?_
    refine RL.val rfl (run_assign (v := B _) rfl) ?_
    refine RL.nil ?_
    refine CW.ret ?_
    refine outP1 Tryd.results3 (congrArg B ?_) hH28.below
    rfl

end Go.Proofs.YtbdhifdijdjlbaaDoor.W
