/-
  The walks of the functions that the laws of this seat reach: each returns what its plain counterpart tells, and turns nothing that was there.
-/
import Derived.Test.YtbdhifdijdjlbaaProg
import Derived.Test.YtbdhifdijdjlbaaEnv
import Derived.Test.YtbdhifdijdjlbaaPlain
namespace Go.Proofs.Ytbdhifdijdjlbaa.W
open Go Go.RowKit Go.Proofs.Ytbdhifdijdjlbaa.E Go.Proofs.Ytbdhifdijdjlbaa.M
set_option linter.unusedVariables false
set_option linter.unusedSimpArgs false
set_option maxRecDepth 100000

theorem c_rung_chain (n : Int) (w : World) : Calls Try.prog 15 #[I n] w (Pure (B (chainB n)) w) := by
  refine enter Try.func15 rfl Try.ntmps15 rfl ?_
  have hH := Hp.start w
  refine CW.seq ?_
  refine CW.region ?_
  refine RL.val rfl (run_assign (v := B false) rfl) ?_
  refine RL.nil ?_
  refine CW.seq ?_
  refine CW.region ?_
  refine RL.val rfl (run_move (v := I _) rfl) ?_
  refine RL.val rfl (run_geq rfl rfl) ?_
  refine RL.val rfl (run_move (v := B _) rfl) ?_
  refine RL.splitP (dj := 5) rfl (fun h2 => ?_) (fun h2 => ?_)
  · refine RL.gT rfl (bT h2) ?_
    refine RL.val rfl (run_move (v := I _) rfl) ?_
    refine RL.gT rfl (bT h2) ?_
    refine RL.val rfl (run_leq rfl rfl) ?_
    refine RL.val rfl (run_pickT (bT h2) (v := B _) rfl) ?_
    refine RL.val rfl (run_assign (v := B _) rfl) ?_
    refine RL.nil ?_
    refine CW.ret ?_
    refine outP1 Try.results15 (congrArg B ?_) hH.below
    (simp [chainB]; omega)
  · refine RL.gF rfl rfl (bF h2) rfl ?_
    refine RL.gF rfl rfl (bF h2) rfl ?_
    refine RL.val rfl (run_pickF (bF h2) (v := B false) rfl) ?_
    refine RL.val rfl (run_assign (v := B _) rfl) ?_
    refine RL.nil ?_
    refine CW.ret ?_
    refine outP1 Try.results15 (congrArg B ?_) hH.below
    (simp [chainB]; omega)

theorem c_mask_Below (n : Int) (w : World) : Calls Try.prog 16 #[I n] w (Pure (U (below n)) w) := by
  refine enter Try.func16 rfl Try.ntmps16 rfl ?_
  have hH := Hp.start w
  refine CW.seq ?_
  refine CW.region ?_
  refine RL.val rfl (run_assign (v := U 0#64) rfl) ?_
  refine RL.nil ?_
  refine CW.seq ?_
  refine CW.seq ?_
  refine CW.region ?_
  refine RL.val rfl (run_move (v := I _) rfl) ?_
  refine RL.val rfl (run_leq rfl rfl) ?_
  refine RL.nil ?_
  refine CW.condP rfl (fun h2 => ?_) (fun h2 => ?_)
  · refine CW.seq ?_
    refine CW.region ?_
    refine RL.val rfl (run_assign (v := U 0#64) rfl) ?_
    refine RL.nil ?_
    refine CW.ret ?_
    exact outP1 Try.results16 (congrArg U (below_nonpos ‹_›).symm) hH.below
  · refine CW.skip ?_
    refine CW.seq ?_
    refine CW.seq ?_
    refine CW.region ?_
    refine RL.val rfl (run_move (v := I _) rfl) ?_
    refine RL.val rfl (run_geq rfl rfl) ?_
    refine RL.nil ?_
    refine CW.condP rfl (fun h4 => ?_) (fun h4 => ?_)
    · refine CW.seq ?_
      refine CW.region ?_
      refine RL.val rfl (run_assign (v := U 18446744073709551615#64) rfl) ?_
      refine RL.nil ?_
      refine CW.ret ?_
      exact outP1 Try.results16 (congrArg U (below_all ‹_›).symm) hH.below
    · refine CW.skip ?_
      refine CW.seq ?_
      refine CW.region ?_
      refine RL.val rfl (run_move (v := I _) rfl) ?_
      refine RL.val rfl (run_convIU Try.underlying3 Try.underlying36 rfl) ?_
      refine RL.val rfl (run_shlU (a := 1#64) rfl rfl) ?_
      refine RL.val rfl (run_subU rfl (b := 1#64) rfl) ?_
      refine RL.val rfl (run_assign (v := U _) rfl) ?_
      refine RL.nil ?_
      refine CW.ret ?_
      exact outP1 Try.results16 (congrArg U (below_mid ‹_› ‹_›).symm) hH.below

theorem c_rung_Word (n k : Int) (w : World) : Calls Try.prog 6 #[I n, I k] w (Pure (.tuple #[U (wordv n k).1, B (wordv n k).2]) w) := by
  refine enter Try.func6 rfl Try.ntmps6 rfl ?_
  have hH := Hp.start w
  refine CW.seq ?_
  refine CW.region ?_
  refine RL.val rfl (run_assign (v := U 0#64) rfl) ?_
  refine RL.val rfl (run_assign (v := B false) rfl) ?_
  refine RL.nil ?_
  refine CW.seq ?_
  refine CW.seq ?_
  refine CW.region ?_
  refine RL.val rfl (run_move (v := I _) rfl) ?_
  refine RL.callP rfl hH (c_rung_chain _  _) (run_call1 Try.call15 rfl) ?_
  intro w1 hH2
  refine RL.val rfl (run_not rfl) ?_
  refine RL.val rfl (run_move (v := B _) rfl) ?_
  refine RL.split (dj := 9) rfl (fun h5 => ?_) (fun h5 => ?_)
  · refine RL.gF rfl rfl (bR (c := true) h5) rfl ?_
    refine RL.gF rfl rfl (bR (c := true) h5) rfl ?_
    refine RL.val rfl (run_pickT (bR (c := true) h5) (v := B true) rfl) ?_
    refine RL.val rfl (run_move (v := B _) rfl) ?_
    refine RL.gF rfl rfl rfl rfl ?_
    refine RL.gF rfl rfl rfl rfl ?_
    refine RL.gF rfl rfl rfl rfl ?_
    refine RL.val rfl (run_pickT rfl (v := B true) rfl) ?_
    refine RL.nil ?_
    refine CW.condT rfl ?_
    refine CW.seq ?_
    refine CW.region ?_
    refine RL.val rfl (run_assign (v := U 0#64) rfl) ?_
    refine RL.val rfl (run_assign (v := B false) rfl) ?_
    refine RL.nil ?_
    refine CW.ret ?_
    have hn := chain_f ‹(!chainB n) = true›
    refine outP2 Try.results6 (congrArg U ?_) (congrArg B ?_) hH2.below <;> rw [wordv_no (by omega)]
  · refine RL.gT rfl (bR (c := false) h5) ?_
    refine RL.val rfl (run_move (v := I _) rfl) ?_
    refine RL.gT rfl (bR (c := false) h5) ?_
    refine RL.val rfl (run_lss rfl rfl) ?_
    refine RL.val rfl (run_pickF (bR (c := false) h5) (v := B _) rfl) ?_
    refine RL.val rfl (run_move (v := B _) rfl) ?_
    refine RL.splitP (dj := 13) rfl (fun h7 => ?_) (fun h7 => ?_)
    · refine RL.gF rfl rfl (bT h7) rfl ?_
      refine RL.gF rfl rfl (bT h7) rfl ?_
      refine RL.gF rfl rfl (bT h7) rfl ?_
      refine RL.val rfl (run_pickT (bT h7) (v := B true) rfl) ?_
      refine RL.nil ?_
      refine CW.condT rfl ?_
      refine CW.seq ?_
      refine CW.region ?_
      refine RL.val rfl (run_assign (v := U 0#64) rfl) ?_
      refine RL.val rfl (run_assign (v := B false) rfl) ?_
      refine RL.nil ?_
      refine CW.ret ?_
      have hn := chain_t ‹(!chainB n) = false›
      refine outP2 Try.results6 (congrArg U ?_) (congrArg B ?_) hH2.below <;> rw [wordv_no (by omega)]
    · refine RL.gT rfl (bF h7) ?_
      refine RL.val rfl (run_move (v := I _) rfl) ?_
      refine RL.gT rfl (bF h7) ?_
      refine RL.val rfl (run_move (v := I _) rfl) ?_
      refine RL.gT rfl (bF h7) ?_
      refine RL.val rfl (run_geq rfl rfl) ?_
      refine RL.val rfl (run_pickF (bF h7) (v := B _) rfl) ?_
      refine RL.nil ?_
      refine CW.condP rfl (fun h9 => ?_) (fun h9 => ?_)
      · refine CW.seq ?_
        refine CW.region ?_
        refine RL.val rfl (run_assign (v := U 0#64) rfl) ?_
        refine RL.val rfl (run_assign (v := B false) rfl) ?_
        refine RL.nil ?_
        refine CW.ret ?_
        have hn := chain_t ‹(!chainB n) = false›
        refine outP2 Try.results6 (congrArg U ?_) (congrArg B ?_) hH2.below <;> rw [wordv_no (by omega)]
      · refine CW.skip ?_
        refine CW.seq ?_
        refine CW.region ?_
        refine RL.val rfl (run_move (v := I _) rfl) ?_
        refine RL.callP rfl hH2 (c_mask_Below _  _) (run_call1 Try.call16 rfl) ?_
        intro w10 hH11
        refine RL.val rfl (run_assign (v := U _) rfl) ?_
        refine RL.val rfl (run_assign (v := B true) rfl) ?_
        refine RL.nil ?_
        refine CW.ret ?_
        have hn := chain_t ‹(!chainB n) = false›
        refine outP2 Try.results6 (congrArg U ?_) (congrArg B ?_) hH11.below <;> rw [wordv_yes (by omega)]

theorem c_rung_Level (n : Int) (s : BitVec 64) (w : World) : Calls Try.prog 10 #[I n, U s] w (Pure (.tuple #[I (level n s).1, B (level n s).2]) w) := by
  refine enter Try.func10 rfl Try.ntmps10 rfl ?_
  have hH := Hp.start w
  refine CW.seq ?_
  refine CW.region ?_
  refine RL.val rfl (run_assign (v := I 0) rfl) ?_
  refine RL.val rfl (run_assign (v := B false) rfl) ?_
  refine RL.nil ?_
  refine CW.seq ?_
  refine CW.seq ?_
  refine CW.region ?_
  refine RL.val rfl (run_move (v := I _) rfl) ?_
  refine RL.callP rfl hH (c_rung_chain _  _) (run_call1 Try.call15 rfl) ?_
  intro w1 hH2
  refine RL.val rfl (run_not rfl) ?_
  refine RL.nil ?_
  refine CW.cond rfl (fun h5 => ?_) (fun h5 => ?_)
  · refine CW.seq ?_
    refine CW.region ?_
    refine RL.val rfl (run_assign (v := I 0) rfl) ?_
    refine RL.val rfl (run_assign (v := B false) rfl) ?_
    refine RL.nil ?_
    refine CW.ret ?_
    have hn := chain_f ‹(!chainB n) = true›
    refine outP2 Try.results10 (congrArg I ?_) (congrArg B ?_) hH2.below <;> rw [level_no s hn]
  · refine CW.skip ?_
    refine CW.seq ?_
    refine CW.seq ?_
    refine CW.region ?_
    refine RL.val rfl (run_move (v := I _) rfl) ?_
    refine RL.val rfl (run_move (v := I 0) rfl) ?_
    refine RL.nil ?_
    refine CW.block ?_
    have hn := chain_t ‹(!chainB n) = false›
    refine CW.loop (G := (Int)) (fun (k : Int) s' w' => (Fr [4, 5, 6, 11, 12, 13, 14, 15, 16, 17, 18, 19] _ s') ∧ (Hp w w' _) ∧ (s' 11 = I k) ∧ (0 ≤ k) ∧ (k ≤ n) ∧ (∀ j : Int, 0 ≤ j → j < k → s ≠ below j)) (fun (k : Int) => (n - k).toNat) (0) ⟨Fr.refl _ _, hH2, rfl, (by omega), (by omega), fun j a b => absurd b (by omega)⟩ ?_
    rintro k s6 w6 ⟨fr6, hH6, e11_6, h0, hk, hf⟩
    have e1_6 : s6 1 = U _ := (fr6 1 rfl).trans rfl
    have e10_6 : s6 10 = I _ := (fr6 10 rfl).trans rfl
    refine CW.seq ?_
    refine CW.region ?_
    refine RL.val rfl (run_lss e11_6 e10_6) ?_
    refine RL.nil ?_
    refine CW.seq ?_
    refine CW.condP rfl (fun h8 => ?_) (fun h8 => ?_)
    · refine CW.skip ?_
      refine CW.seq ?_
      refine CW.block ?_
      refine CW.seq ?_
      refine CW.region ?_
      refine RL.val rfl (run_move e11_6) ?_
      refine RL.val rfl (run_assign (v := I _) rfl) ?_
      refine RL.nil ?_
      refine CW.seq ?_
      refine CW.region ?_
      refine RL.val rfl (run_move e1_6) ?_
      refine RL.val rfl (run_move (v := I _) rfl) ?_
      refine RL.callP rfl hH6 (c_mask_Below _  _) (run_call1 Try.call16 rfl) ?_
      intro w9 hH10
      refine RL.val rfl (run_eqlU rfl rfl) ?_
      refine RL.nil ?_
      refine CW.condP rfl (fun h12 => ?_) (fun h12 => ?_)
      · refine CW.seq ?_
        refine CW.region ?_
        refine RL.val rfl (run_move (v := I _) rfl) ?_
        refine RL.val rfl (run_assign (v := I _) rfl) ?_
        refine RL.val rfl (run_assign (v := B true) rfl) ?_
        refine RL.nil ?_
        refine CW.ret ?_
        refine outP2 Try.results10 (congrArg I ?_) (congrArg B ?_) hH10.below <;> rw [level_at hn h0 (by omega) ‹_› hf]
      · refine CW.skip ?_
        refine CW.region ?_
        refine RL.val rfl (run_add e11_6 rfl (by omega)) ?_
        refine RL.val rfl (run_move (v := I _) rfl) ?_
        refine RL.nil ?_
        refine ⟨k + 1, ?_, ((((((((fr6.u rfl).u rfl).u rfl).u rfl).u rfl).u rfl).u rfl).u rfl).u rfl, hH10, (congrArg I (by first | rfl | omega)), ?_, ?_, ?_⟩
        · ((try dsimp only); omega)
        · omega
        · omega
        · exact fun j a b => if e : j = k then e ▸ ‹¬ s = below k› else hf j a (by omega)
    · refine CW.exit (id := 0) rfl ?_
      refine CW.seq ?_
      refine CW.region ?_
      refine RL.val rfl (run_assign (v := I 0) rfl) ?_
      refine RL.val rfl (run_assign (v := B false) rfl) ?_
      refine RL.nil ?_
      refine CW.ret ?_
      refine outP2 Try.results10 (congrArg I ?_) (congrArg B ?_) hH6.below <;> rw [level_none hn (fun j a b => hf j a (by omega))]

theorem c_mask_Sub (a b : BitVec 64) (w : World) : Calls Try.prog 8 #[U a, U b] w (Pure (B (subB a b)) w) := by
  refine enter Try.func8 rfl Try.ntmps8 rfl ?_
  have hH := Hp.start w
  refine CW.seq ?_
  refine CW.region ?_
  refine RL.val rfl (run_assign (v := B false) rfl) ?_
  refine RL.nil ?_
  refine CW.seq ?_
  refine CW.region ?_
  refine RL.val rfl (run_move (v := U _) rfl) ?_
  refine RL.val rfl (run_move (v := U _) rfl) ?_
  refine RL.val rfl (run_andNotU rfl rfl) ?_
  refine RL.val rfl (run_eqlU rfl (b := 0#64) rfl) ?_
  refine RL.val rfl (run_assign (v := B _) rfl) ?_
  refine RL.nil ?_
  refine CW.ret ?_
  refine outP1 Try.results8 (congrArg B ?_) hH.below
  rfl

theorem c_clearanceref01_Of (v : Value) (l : List Int) (w : World) (hs : Sl w v 1 l.length (l.map I)) : Calls Try.prog 19 #[v] w (Pure (U (ofl l)) w) := by
  have hm := hs.small
  unfold maxLen at hm
  refine enter Try.func19 rfl Try.ntmps19 rfl ?_
  have hH := Hp.start w
  refine CW.seq ?_
  refine CW.region ?_
  refine RL.val rfl (run_assign (v := U 0#64) rfl) ?_
  refine RL.nil ?_
  refine CW.seq ?_
  refine CW.region ?_
  refine RL.val rfl (run_assign (v := U 0#64) rfl) ?_
  refine RL.val rfl (run_assign (v := U 1#64) rfl) ?_
  refine RL.nil ?_
  refine CW.seq ?_
  refine CW.seq ?_
  refine CW.region ?_
  refine RL.val rfl (run_assign (v := I 0) rfl) ?_
  refine RL.nil ?_
  refine CW.block ?_
  refine CW.loop (G := (Int)) (fun (i : Int) s' w' => (Fr [3, 4, 5, 6, 7, 8, 9, 10, 11, 12, 13, 14, 15, 16, 17, 18, 19, 20, 21, 22, 23, 24, 25, 26, 27] _ s') ∧ (Hp w w' _) ∧ (s' 3 = U (oflTo l i.toNat)) ∧ (s' 4 = U (1#64 <<< i.toNat)) ∧ (s' 5 = I i) ∧ (0 ≤ i) ∧ (i ≤ 64)) (fun (i : Int) => (64 - i).toNat) (0) ⟨Fr.refl _ _, hH, (congrArg U (by rfl)), (congrArg U (by rfl)), rfl, (by omega), (by omega)⟩ ?_
  rintro i s1 w1 ⟨fr1, hH1, e3_1, e4_1, e5_1, i0, i1⟩
  have e0_1 := (fr1 0 rfl).trans (by conv => lhs; whnf)
  have e2_1 : s1 2 = U _ := (fr1 2 rfl).trans rfl
  refine CW.seq ?_
  refine CW.seq ?_
  refine CW.region ?_
  refine RL.val rfl (run_move e5_1) ?_
  refine RL.val rfl (run_lss rfl rfl) ?_
  refine RL.nil ?_
  refine CW.condP rfl (fun h3 => ?_) (fun h3 => ?_)
  · refine CW.skip ?_
    refine CW.seq ?_
    refine CW.block ?_
    refine CW.seq ?_
    refine CW.seq ?_
    refine CW.region ?_
    refine RL.val rfl (run_assign (v := I 0) rfl) ?_
    refine RL.nil ?_
    refine CW.block ?_
    refine CW.loop (G := (Int)) (fun (k : Int) s' w' => (Fr [3, 6, 11, 12, 13, 14, 15, 16, 17, 18, 19, 20, 21, 22, 23, 24, 25] _ s') ∧ (Hp w w' _) ∧ (s' 3 = U (oflTo l i.toNat)) ∧ (s' 6 = I k) ∧ (0 ≤ k) ∧ (k ≤ l.length) ∧ (∀ j : Int, 0 ≤ j → j < k → l.getD j.toNat 0 ≠ i)) (fun (k : Int) => (l.length - k).toNat) (0) ⟨Fr.refl _ _, hH1, e3_1, rfl, (by omega), (by omega), fun j a b => absurd b (by omega)⟩ ?_
    rintro k s4 w4 ⟨fr4, hH4, e3_4, e6_4, k0, k1, hf⟩
    have e0_4 := (fr4 0 rfl).trans e0_1
    have e2_4 := (fr4 2 rfl).trans e2_1
    have e4_4 := (fr4 4 rfl).trans e4_1
    have e5_4 := (fr4 5 rfl).trans e5_1
    have e7_4 : s4 7 = I _ := (fr4 7 rfl).trans rfl
    have e8_4 : s4 8 = B _ := (fr4 8 rfl).trans rfl
    refine CW.seq ?_
    refine CW.seq ?_
    refine CW.region ?_
    refine RL.val rfl (run_move e6_4) ?_
    refine RL.val rfl (run_move e0_4) ?_
    refine RL.val rfl (run_lenSl (hs.hp hH4) rfl Try.underlying37 rfl) ?_
    refine RL.val rfl (run_lss rfl rfl) ?_
    refine RL.nil ?_
    refine CW.condP rfl (fun h6 => ?_) (fun h6 => ?_)
    · refine CW.skip ?_
      refine CW.seq ?_
      refine CW.block ?_
      refine CW.seq ?_
      refine CW.region ?_
      refine RL.val rfl (run_move e0_4) ?_
      refine RL.val rfl (run_move e6_4) ?_
      refine RL.val rfl (run_indexAddrS (hs.hp hH4) Try.underlying37 Try.sizeOf3 rfl rfl (by omega)) ?_
      refine RL.val rfl (run_ld Try.underlying3 rfl rfl ((hs.hp hH4).cell _ _ (map_at (by omega)))) ?_
      refine RL.val rfl (run_move e5_4) ?_
      refine RL.val rfl (run_eql rfl rfl) ?_
      refine RL.nil ?_
      refine CW.condP rfl (fun h8 => ?_) (fun h8 => ?_)
      · refine CW.seq ?_
        refine CW.region ?_
        refine RL.val rfl (run_move e3_4) ?_
        refine RL.val rfl (run_move e4_4) ?_
        refine RL.val rfl (run_addU rfl rfl) ?_
        refine RL.val rfl (run_assign (v := U _) rfl) ?_
        refine RL.nil ?_
        refine CW.exit (id := 2) rfl ?_
        refine CW.region ?_
        refine RL.val rfl (run_move e4_4) ?_
        refine RL.val rfl (run_mulU rfl (b := 2#64) rfl) ?_
        refine RL.val rfl (run_assign (v := U _) rfl) ?_
        refine RL.nil ?_
        refine CW.region ?_
        refine RL.val rfl (run_move e5_4) ?_
        refine RL.val rfl (run_add rfl rfl (by omega)) ?_
        refine RL.val rfl (run_assign (v := I _) rfl) ?_
        refine RL.nil ?_
        refine ⟨i + 1, ?_, ((((((((((((((((((((((((fr1.u rfl).u rfl).u rfl).t fr4 rfl)).u rfl).u rfl).u rfl).u rfl).u rfl).u rfl).u rfl).u rfl).u rfl).u rfl).u rfl).u rfl).u rfl).u rfl).u rfl).u rfl).u rfl).u rfl).u rfl).u rfl, hH4, (congrArg U (oflTo_yesI i0 (by omega) k0 (by omega) ‹_›)), (congrArg U (by rw [shl_two, show (i + 1).toNat = i.toNat + 1 by omega])), (congrArg I (by first | rfl | omega)), ?_, ?_⟩
        · ((try dsimp only); omega)
        · omega
        · omega
      · refine CW.skip ?_
        refine CW.region ?_
        refine RL.val rfl (run_move e6_4) ?_
        refine RL.val rfl (run_add rfl rfl (by omega)) ?_
        refine RL.val rfl (run_assign (v := I _) rfl) ?_
        refine RL.nil ?_
        refine ⟨k + 1, ?_, ((((((((((((fr4.u rfl).u rfl).u rfl).u rfl).u rfl).u rfl).u rfl).u rfl).u rfl).u rfl).u rfl).u rfl).u rfl, hH4, e3_4, (congrArg I (by first | rfl | omega)), ?_, ?_, ?_⟩
        · ((try dsimp only); omega)
        · omega
        · omega
        · exact fun j a b => if e : j = k then e ▸ ‹¬ l.getD k.toNat 0 = i› else hf j a (by omega)
    · refine CW.exit (id := 2) rfl ?_
      refine CW.region ?_
      refine RL.val rfl (run_move e4_4) ?_
      refine RL.val rfl (run_mulU rfl (b := 2#64) rfl) ?_
      refine RL.val rfl (run_assign (v := U _) rfl) ?_
      refine RL.nil ?_
      refine CW.region ?_
      refine RL.val rfl (run_move e5_4) ?_
      refine RL.val rfl (run_add rfl rfl (by omega)) ?_
      refine RL.val rfl (run_assign (v := I _) rfl) ?_
      refine RL.nil ?_
      refine ⟨i + 1, ?_, ((((((((((((((fr1.u rfl).u rfl).u rfl).t fr4 rfl)).u rfl).u rfl).u rfl).u rfl).u rfl).u rfl).u rfl).u rfl).u rfl).u rfl, hH4, (Eq.trans e3_4 (congrArg U (oflTo_noI i0 (fun j a b => hf j a (by omega))))), (congrArg U (by rw [shl_two, show (i + 1).toNat = i.toNat + 1 by omega])), (congrArg I (by first | rfl | omega)), ?_, ?_⟩
      · ((try dsimp only); omega)
      · omega
      · omega
  · refine CW.exit (id := 0) rfl ?_
    refine CW.seq ?_
    refine CW.region ?_
    refine RL.val rfl (run_move e3_1) ?_
    refine RL.val rfl (run_assign (v := U _) rfl) ?_
    refine RL.nil ?_
    refine CW.ret ?_
    refine outP1 Try.results19 (congrArg U ?_) hH1.below
    (rw [show i.toNat = 64 by omega]; rfl)

theorem c_bits_OnesCount64 (s : BitVec 64) (w : World) : Calls Try.prog 18 #[U s] w (Pure (I (pop s)) w) := by
  refine enter Try.func18 rfl Try.ntmps18 rfl ?_
  have hH := Hp.start w
  refine CW.seq ?_
  refine CW.region ?_
  refine RL.val rfl (run_assign (v := I 0) rfl) ?_
  refine RL.nil ?_
  refine CW.seq ?_
  refine CW.region ?_
  refine RL.val rfl (run_move (v := U _) rfl) ?_
  refine RL.val rfl (run_shrU rfl (b := 1#64) rfl) ?_
  refine RL.val rfl (run_andU rfl (b := 6148914691236517205#64) rfl) ?_
  refine RL.val rfl (run_move (v := U _) rfl) ?_
  refine RL.val rfl (run_andU rfl (b := 6148914691236517205#64) rfl) ?_
  refine RL.val rfl (run_addU rfl rfl) ?_
  refine RL.val rfl (run_assign (v := U _) rfl) ?_
  refine RL.nil ?_
  refine CW.seq ?_
  refine CW.region ?_
  refine RL.val rfl (run_move (v := U _) rfl) ?_
  refine RL.val rfl (run_shrU rfl (b := 2#64) rfl) ?_
  refine RL.val rfl (run_andU rfl (b := 3689348814741910323#64) rfl) ?_
  refine RL.val rfl (run_move (v := U _) rfl) ?_
  refine RL.val rfl (run_andU rfl (b := 3689348814741910323#64) rfl) ?_
  refine RL.val rfl (run_addU rfl rfl) ?_
  refine RL.val rfl (run_assign (v := U _) rfl) ?_
  refine RL.nil ?_
  refine CW.seq ?_
  refine CW.region ?_
  refine RL.val rfl (run_move (v := U _) rfl) ?_
  refine RL.val rfl (run_shrU rfl (b := 4#64) rfl) ?_
  refine RL.val rfl (run_move (v := U _) rfl) ?_
  refine RL.val rfl (run_addU rfl rfl) ?_
  refine RL.val rfl (run_andU rfl (b := 1085102592571150095#64) rfl) ?_
  refine RL.val rfl (run_assign (v := U _) rfl) ?_
  refine RL.nil ?_
  refine CW.seq ?_
  refine CW.region ?_
  refine RL.val rfl (run_move (v := U _) rfl) ?_
  refine RL.val rfl (run_move (v := U _) rfl) ?_
  refine RL.val rfl (run_shrU rfl (b := 8#64) rfl) ?_
  refine RL.val rfl (run_addU rfl rfl) ?_
  refine RL.val rfl (run_assign (v := U _) rfl) ?_
  refine RL.nil ?_
  refine CW.seq ?_
  refine CW.region ?_
  refine RL.val rfl (run_move (v := U _) rfl) ?_
  refine RL.val rfl (run_move (v := U _) rfl) ?_
  refine RL.val rfl (run_shrU rfl (b := 16#64) rfl) ?_
  refine RL.val rfl (run_addU rfl rfl) ?_
  refine RL.val rfl (run_assign (v := U _) rfl) ?_
  refine RL.nil ?_
  refine CW.seq ?_
  refine CW.region ?_
  refine RL.val rfl (run_move (v := U _) rfl) ?_
  refine RL.val rfl (run_move (v := U _) rfl) ?_
  refine RL.val rfl (run_shrU rfl (b := 32#64) rfl) ?_
  refine RL.val rfl (run_addU rfl rfl) ?_
  refine RL.val rfl (run_assign (v := U _) rfl) ?_
  refine RL.nil ?_
  refine CW.seq ?_
  refine CW.region ?_
  refine RL.val rfl (run_move (v := U _) rfl) ?_
  refine RL.val rfl (run_convUS Try.underlying22 Try.underlying3 rfl) ?_
  refine RL.val rfl (run_andI rfl (b := 127#64) rfl) ?_
  refine RL.val rfl (run_assign (v := I _) rfl) ?_
  refine RL.nil ?_
  refine CW.ret ?_
  refine outP1 Try.results18 (congrArg I ?_) hH.below
  rfl

theorem c_mask_Count (s : BitVec 64) (w : World) : Calls Try.prog 14 #[U s] w (Pure (I (pop s)) w) := by
  refine enter Try.func14 rfl Try.ntmps14 rfl ?_
  have hH := Hp.start w
  refine CW.seq ?_
  refine CW.region ?_
  refine RL.val rfl (run_assign (v := I 0) rfl) ?_
  refine RL.nil ?_
  refine CW.seq ?_
  refine CW.region ?_
  refine RL.val rfl (run_move (v := U _) rfl) ?_
  refine RL.callP rfl hH (c_bits_OnesCount64 _  _) (run_call1 Try.call18 rfl) ?_
  intro w1 hH2
  refine RL.val rfl (run_assign (v := I _) rfl) ?_
  refine RL.nil ?_
  refine CW.ret ?_
  refine outP1 Try.results14 (congrArg I ?_) hH2.below
  rfl

theorem c_clearanceref01_Below (n : Int) (w : World) : Calls Try.prog 17 #[I n] w (Pure (U (below n)) w) := by
  refine enter Try.func17 rfl Try.ntmps17 rfl ?_
  have hH := Hp.start w
  refine CW.seq ?_
  refine CW.region ?_
  refine RL.val rfl (run_assign (v := U 0#64) rfl) ?_
  refine RL.nil ?_
  refine CW.seq ?_
  refine CW.region ?_
  refine RL.val rfl (run_assign (v := .slice none 0 0) rfl) ?_
  have hH1 := hH.nilRow 3 1
  refine RL.nil ?_
  refine CW.seq ?_
  refine CW.seq ?_
  refine CW.region ?_
  refine RL.val rfl (run_assign (v := I 0) rfl) ?_
  refine RL.nil ?_
  refine CW.block ?_
  refine CW.loop (G := (Int) × (List Int) × (Value)) (fun (⟨k, l, v3⟩ : (Int) × (List Int) × (Value)) s' w' => (Fr [3, 4, 5, 6, 7, 8, 9, 10, 11, 12, 13, 14, 15, 16, 17] _ s') ∧ (Hp w w' (.row v3 3 1 (l.length) (l.map I) :: _)) ∧ (s' 3 = v3) ∧ (s' 4 = I k) ∧ (0 ≤ k) ∧ (k ≤ 64) ∧ (k ≤ max n 0) ∧ (l = upto k)) (fun (⟨k, l, v3⟩ : (Int) × (List Int) × (Value)) => (64 - k).toNat) ((0, [], (.slice none 0 0 : Value))) ⟨Fr.refl _ _, hH1, rfl, rfl, (by omega), (by omega), (by omega), rfl⟩ ?_
  rintro ⟨k, l, v3⟩ s2 w2 ⟨fr2, hH2, e3_2, e4_2, h0, hk, hn, hl⟩
  have e0_2 : s2 0 = I _ := (fr2 0 rfl).trans rfl
  have e2_2 : s2 2 = U _ := (fr2 2 rfl).trans rfl
  refine CW.seq ?_
  refine CW.seq ?_
  refine CW.region ?_
  refine RL.val rfl (run_move e4_2) ?_
  refine RL.val rfl (run_move e0_2) ?_
  refine RL.val rfl (run_lss rfl rfl) ?_
  refine RL.val rfl (run_move (v := B _) rfl) ?_
  refine RL.splitP (dj := 8) rfl (fun h4 => ?_) (fun h4 => ?_)
  · refine RL.gT rfl (bT h4) ?_
    refine RL.val rfl (run_move e4_2) ?_
    refine RL.gT rfl (bT h4) ?_
    refine RL.val rfl (run_lss rfl rfl) ?_
    refine RL.val rfl (run_pickT (bT h4) (v := B _) rfl) ?_
    refine RL.nil ?_
    refine CW.condP rfl (fun h6 => ?_) (fun h6 => ?_)
    · refine CW.skip ?_
      refine CW.seq ?_
      refine CW.block ?_
      refine CW.region ?_
      refine RL.val rfl (run_move e3_2) ?_
      refine RL.val rfl (run_move e4_2) ?_
      refine RL.new rfl hH2 (f := fun b => (.slice (some ⟨b, 0, none⟩) 1 1)) (run_mkL Try.underlying37 rfl rfl (sz := 1) (vs := [I _]) rfl rfl (by decide) (by decide) rfl rfl) ?_
      intro b9 w7 hH8
      simp only [List.flatMap_cons, List.flatMap_nil, clI, clB, clS, clP, clL, clA, List.append_nil, List.cons_append, List.nil_append] at hH8
      refine RL.app rfl hH8 (i := 1) rfl (hH8.slBlk (i := 0) (n := 1) (sz := 1) rfl rfl (by decide)) rfl rfl Try.underlying37 rfl rfl (size := 1) (bytes := 8) rfl rfl rfl (by decide) (by simp [Value.oneCell']) (by have := @upto_len k; rw [← hl] at this; omega) (by have := @upto_len k; rw [← hl] at this; simp only [maxLen]; omega) ?_
      intro v10 w11 hH12
      simp only [List.set_cons_zero, List.set_cons_succ] at hH12
      refine RL.val rfl (run_assign (by conv => lhs; whnf)) ?_
      refine RL.nil ?_
      refine CW.region ?_
      refine RL.val rfl (run_move e4_2) ?_
      refine RL.val rfl (run_add rfl rfl (by omega)) ?_
      refine RL.val rfl (run_assign (v := I _) rfl) ?_
      refine RL.nil ?_
      refine ⟨(k + 1, l ++ [k], v10), ?_, ((((((((((((((fr2.u rfl).u rfl).u rfl).u rfl).u rfl).u rfl).u rfl).u rfl).u rfl).u rfl).u rfl).u rfl).u rfl).u rfl).u rfl, (Hp.conv (hH12.sub (.cons _ (List.Sublist.refl _))) (by first | rfl | simp)), rfl, (congrArg I (by first | rfl | omega)), ?_, ?_, ?_, ?_⟩
      · ((try dsimp only); omega)
      · omega
      · omega
      · omega
      · rw [hl, upto_succ h0]
    · refine CW.exit (id := 0) rfl ?_
      refine CW.seq ?_
      refine CW.region ?_
      refine RL.val rfl (run_move e3_2) ?_
      refine RL.callP rfl hH2 (c_clearanceref01_Of _ _  _ (hH2.sl (i := 0) rfl)) (run_call1 Try.call19 rfl) ?_
      intro w13 hH14
      refine RL.val rfl (run_assign (v := U _) rfl) ?_
      refine RL.nil ?_
      refine CW.ret ?_
      refine outP1 Try.results17 (congrArg U ?_) hH14.below
      exact below_eq_ofl fun i a b => by rw [hl, mem_upto]; omega
  · refine RL.gF rfl rfl (bF h4) rfl ?_
    refine RL.gF rfl rfl (bF h4) rfl ?_
    refine RL.val rfl (run_pickF (bF h4) (v := B false) rfl) ?_
    refine RL.nil ?_
    refine CW.condF rfl ?_
    refine CW.exit (id := 0) rfl ?_
    refine CW.seq ?_
    refine CW.region ?_
    refine RL.val rfl (run_move e3_2) ?_
    refine RL.callP rfl hH2 (c_clearanceref01_Of _ _  _ (hH2.sl (i := 0) rfl)) (run_call1 Try.call19 rfl) ?_
    intro w15 hH16
    refine RL.val rfl (run_assign (v := U _) rfl) ?_
    refine RL.nil ?_
    refine CW.ret ?_
    refine outP1 Try.results17 (congrArg U ?_) hH16.below
    exact below_eq_ofl fun i a b => by rw [hl, mem_upto]; omega

theorem c_rung_Right (n : Int) (s : BitVec 64) (w : World) : Calls Try.prog 12 #[I n, U s] w (Pure (B (level n s).2) w) := by
  refine enter Try.func12 rfl Try.ntmps12 rfl ?_
  have hH := Hp.start w
  refine CW.seq ?_
  refine CW.region ?_
  refine RL.val rfl (run_assign (v := B false) rfl) ?_
  refine RL.nil ?_
  refine CW.seq ?_
  refine CW.region ?_
  refine RL.val rfl (run_move (v := I _) rfl) ?_
  refine RL.val rfl (run_move (v := U _) rfl) ?_
  refine RL.callP rfl hH (c_rung_Level _ _  _) (run_call2 Try.call10 rfl rfl) ?_
  intro w1 hH2
  refine RL.val rfl (run_move (by conv => lhs; whnf)) ?_
  refine RL.val rfl (run_extract rfl (v := I _) rfl) ?_
  refine RL.val rfl (run_extract rfl (v := B _) rfl) ?_
  refine RL.val rfl (run_assign (v := I _) rfl) ?_
  refine RL.val rfl (run_assign (v := B _) rfl) ?_
  refine RL.nil ?_
  refine CW.seq ?_
  refine CW.region ?_
  refine RL.val rfl (run_move (v := B _) rfl) ?_
  refine RL.val rfl (run_assign (v := B _) rfl) ?_
  refine RL.nil ?_
  refine CW.ret ?_
  refine outP1 Try.results12 (congrArg B ?_) hH2.below
  rfl

theorem c_rung_Top (n : Int) (w : World) : Calls Try.prog 13 #[I n] w (Pure (U (topv n)) w) := by
  refine enter Try.func13 rfl Try.ntmps13 rfl ?_
  have hH := Hp.start w
  refine CW.seq ?_
  refine CW.region ?_
  refine RL.val rfl (run_assign (v := U 0#64) rfl) ?_
  refine RL.nil ?_
  refine CW.seq ?_
  refine CW.region ?_
  refine RL.val rfl (run_move (v := I _) rfl) ?_
  refine RL.val rfl (run_move (v := I _) rfl) ?_
  refine RL.val rfl (run_subW rfl rfl) ?_
  refine RL.callP rfl hH (c_rung_Word _ _  _) (run_call2 Try.call6 rfl rfl) ?_
  intro w1 hH2
  refine RL.val rfl (run_move (by conv => lhs; whnf)) ?_
  refine RL.val rfl (run_extract rfl (v := U _) rfl) ?_
  refine RL.val rfl (run_extract rfl (v := B _) rfl) ?_
  refine RL.val rfl (run_assign (v := U _) rfl) ?_
  refine RL.val rfl (run_assign (v := B _) rfl) ?_
  refine RL.nil ?_
  refine CW.seq ?_
  refine CW.region ?_
  refine RL.val rfl (run_move (v := U _) rfl) ?_
  refine RL.val rfl (run_assign (v := U _) rfl) ?_
  refine RL.nil ?_
  refine CW.ret ?_
  refine outP1 Try.results13 (congrArg U ?_) hH2.below
  by_cases hn : 1 ≤ n ∧ n ≤ 64
  · rw [topv, if_pos hn, wrap_id (by omega), wordv_yes (by omega)]
  · rw [topv, if_neg hn, wordv_no (by omega)]

theorem c_clearanceref04_Word (n k : Int) (w : World) : Calls Try.prog 9 #[I n, I k] w (Pure (.tuple #[U (wordv n k).1, B (wordv n k).2]) w) := by
  refine enter Try.func9 rfl Try.ntmps9 rfl ?_
  have hH := Hp.start w
  refine CW.seq ?_
  refine CW.region ?_
  refine RL.val rfl (run_assign (v := U 0#64) rfl) ?_
  refine RL.val rfl (run_assign (v := B false) rfl) ?_
  refine RL.nil ?_
  refine CW.seq ?_
  refine CW.seq ?_
  refine CW.region ?_
  refine RL.val rfl (run_move (v := I _) rfl) ?_
  refine RL.val rfl (run_lss rfl rfl) ?_
  refine RL.val rfl (run_move (v := B _) rfl) ?_
  refine RL.splitP (dj := 8) rfl (fun h2 => ?_) (fun h2 => ?_)
  · refine RL.gF rfl rfl (bT h2) rfl ?_
    refine RL.gF rfl rfl (bT h2) rfl ?_
    refine RL.val rfl (run_pickT (bT h2) (v := B true) rfl) ?_
    refine RL.val rfl (run_move (v := B _) rfl) ?_
    refine RL.gF rfl rfl rfl rfl ?_
    refine RL.gF rfl rfl rfl rfl ?_
    refine RL.val rfl (run_pickT rfl (v := B true) rfl) ?_
    refine RL.val rfl (run_move (v := B _) rfl) ?_
    refine RL.gF rfl rfl rfl rfl ?_
    refine RL.gF rfl rfl rfl rfl ?_
    refine RL.gF rfl rfl rfl rfl ?_
    refine RL.val rfl (run_pickT rfl (v := B true) rfl) ?_
    refine RL.nil ?_
    refine CW.condT rfl ?_
    refine CW.seq ?_
    refine CW.region ?_
    refine RL.val rfl (run_assign (v := U 0#64) rfl) ?_
    refine RL.val rfl (run_assign (v := B false) rfl) ?_
    refine RL.nil ?_
    refine CW.ret ?_
    refine outP2 Try.results9 (congrArg U ?_) (congrArg B ?_) hH.below <;> rw [wordv_no (by omega)]
  · refine RL.gT rfl (bF h2) ?_
    refine RL.val rfl (run_move (v := I _) rfl) ?_
    refine RL.gT rfl (bF h2) ?_
    refine RL.val rfl (run_gtr rfl rfl) ?_
    refine RL.val rfl (run_pickF (bF h2) (v := B _) rfl) ?_
    refine RL.val rfl (run_move (v := B _) rfl) ?_
    refine RL.splitP (dj := 12) rfl (fun h4 => ?_) (fun h4 => ?_)
    · refine RL.gF rfl rfl (bT h4) rfl ?_
      refine RL.gF rfl rfl (bT h4) rfl ?_
      refine RL.val rfl (run_pickT (bT h4) (v := B true) rfl) ?_
      refine RL.val rfl (run_move (v := B _) rfl) ?_
      refine RL.gF rfl rfl rfl rfl ?_
      refine RL.gF rfl rfl rfl rfl ?_
      refine RL.gF rfl rfl rfl rfl ?_
      refine RL.val rfl (run_pickT rfl (v := B true) rfl) ?_
      refine RL.nil ?_
      refine CW.condT rfl ?_
      refine CW.seq ?_
      refine CW.region ?_
      refine RL.val rfl (run_assign (v := U 0#64) rfl) ?_
      refine RL.val rfl (run_assign (v := B false) rfl) ?_
      refine RL.nil ?_
      refine CW.ret ?_
      refine outP2 Try.results9 (congrArg U ?_) (congrArg B ?_) hH.below <;> rw [wordv_no (by omega)]
    · refine RL.gT rfl (bF h4) ?_
      refine RL.val rfl (run_move (v := I _) rfl) ?_
      refine RL.gT rfl (bF h4) ?_
      refine RL.val rfl (run_lss rfl rfl) ?_
      refine RL.val rfl (run_pickF (bF h4) (v := B _) rfl) ?_
      refine RL.val rfl (run_move (v := B _) rfl) ?_
      refine RL.splitP (dj := 16) rfl (fun h6 => ?_) (fun h6 => ?_)
      · refine RL.gF rfl rfl (bT h6) rfl ?_
        refine RL.gF rfl rfl (bT h6) rfl ?_
        refine RL.gF rfl rfl (bT h6) rfl ?_
        refine RL.val rfl (run_pickT (bT h6) (v := B true) rfl) ?_
        refine RL.nil ?_
        refine CW.condT rfl ?_
        refine CW.seq ?_
        refine CW.region ?_
        refine RL.val rfl (run_assign (v := U 0#64) rfl) ?_
        refine RL.val rfl (run_assign (v := B false) rfl) ?_
        refine RL.nil ?_
        refine CW.ret ?_
        refine outP2 Try.results9 (congrArg U ?_) (congrArg B ?_) hH.below <;> rw [wordv_no (by omega)]
      · refine RL.gT rfl (bF h6) ?_
        refine RL.val rfl (run_move (v := I _) rfl) ?_
        refine RL.gT rfl (bF h6) ?_
        refine RL.val rfl (run_move (v := I _) rfl) ?_
        refine RL.gT rfl (bF h6) ?_
        refine RL.val rfl (run_geq rfl rfl) ?_
        refine RL.val rfl (run_pickF (bF h6) (v := B _) rfl) ?_
        refine RL.nil ?_
        refine CW.condP rfl (fun h8 => ?_) (fun h8 => ?_)
        · refine CW.seq ?_
          refine CW.region ?_
          refine RL.val rfl (run_assign (v := U 0#64) rfl) ?_
          refine RL.val rfl (run_assign (v := B false) rfl) ?_
          refine RL.nil ?_
          refine CW.ret ?_
          refine outP2 Try.results9 (congrArg U ?_) (congrArg B ?_) hH.below <;> rw [wordv_no (by omega)]
        · refine CW.skip ?_
          refine CW.seq ?_
          refine CW.region ?_
          refine RL.val rfl (run_move (v := I _) rfl) ?_
          refine RL.callP rfl hH (c_clearanceref01_Below _  _) (run_call1 Try.call17 rfl) ?_
          intro w9 hH10
          refine RL.val rfl (run_assign (v := U _) rfl) ?_
          refine RL.val rfl (run_assign (v := B true) rfl) ?_
          refine RL.nil ?_
          refine CW.ret ?_
          refine outP2 Try.results9 (congrArg U ?_) (congrArg B ?_) hH10.below <;> rw [wordv_yes (by omega)]

theorem c_clearanceref04_Level (n : Int) (s : BitVec 64) (w : World) : Calls Try.prog 11 #[I n, U s] w (Pure (.tuple #[I (level n s).1, B (level n s).2]) w) := by
  refine enter Try.func11 rfl Try.ntmps11 rfl ?_
  have hH := Hp.start w
  refine CW.seq ?_
  refine CW.region ?_
  refine RL.val rfl (run_assign (v := I 0) rfl) ?_
  refine RL.val rfl (run_assign (v := B false) rfl) ?_
  refine RL.nil ?_
  refine CW.seq ?_
  refine CW.seq ?_
  refine CW.region ?_
  refine RL.val rfl (run_assign (v := I 0) rfl) ?_
  refine RL.nil ?_
  refine CW.block ?_
  refine CW.loop (G := (Int)) (fun (k : Int) s' w' => (Fr [4, 5, 6, 7, 8, 9, 10, 11, 12, 13, 14, 15, 16, 17, 18, 19, 20, 21, 22, 23, 24, 25, 26, 27, 28, 29, 30] _ s') ∧ (Hp w w' _) ∧ (s' 6 = I k) ∧ (0 ≤ k) ∧ (k ≤ n ∨ k = 0) ∧ (k ≤ 64) ∧ (n ≤ 64 → ∀ j : Int, 0 ≤ j → j < k → s ≠ below j)) (fun (k : Int) => (64 - k).toNat) (0) ⟨Fr.refl _ _, hH, rfl, (by omega), (by omega), (by omega), fun _ j a b => absurd b (by omega)⟩ ?_
  rintro k s1 w1 ⟨fr1, hH1, e6_1, h0, hk, h6, hf⟩
  have e0_1 : s1 0 = I _ := (fr1 0 rfl).trans rfl
  have e1_1 : s1 1 = U _ := (fr1 1 rfl).trans rfl
  refine CW.seq ?_
  refine CW.seq ?_
  refine CW.region ?_
  refine RL.val rfl (run_move e6_1) ?_
  refine RL.val rfl (run_move e0_1) ?_
  refine RL.val rfl (run_lss rfl rfl) ?_
  refine RL.val rfl (run_move (v := B _) rfl) ?_
  refine RL.splitP (dj := 12) rfl (fun h3 => ?_) (fun h3 => ?_)
  · refine RL.gT rfl (bT h3) ?_
    refine RL.val rfl (run_move e6_1) ?_
    refine RL.gT rfl (bT h3) ?_
    refine RL.val rfl (run_lss rfl rfl) ?_
    refine RL.val rfl (run_pickT (bT h3) (v := B _) rfl) ?_
    refine RL.nil ?_
    refine CW.condP rfl (fun h5 => ?_) (fun h5 => ?_)
    · refine CW.skip ?_
      refine CW.seq ?_
      refine CW.block ?_
      refine CW.seq ?_
      refine CW.region ?_
      refine RL.val rfl (run_move e0_1) ?_
      refine RL.val rfl (run_move e6_1) ?_
      refine RL.callP rfl hH1 (c_clearanceref04_Word _ _  _) (run_call2 Try.call9 rfl rfl) ?_
      intro w6 hH7
      refine RL.val rfl (run_move (by conv => lhs; whnf)) ?_
      refine RL.val rfl (run_extract rfl (v := U _) rfl) ?_
      refine RL.val rfl (run_extract rfl (v := B _) rfl) ?_
      refine RL.val rfl (run_assign (v := U _) rfl) ?_
      refine RL.val rfl (run_assign (v := B _) rfl) ?_
      refine RL.nil ?_
      refine CW.seq ?_
      refine CW.region ?_
      refine RL.val rfl (run_move (v := B _) rfl) ?_
      refine RL.val rfl (run_move (v := B _) rfl) ?_
      refine RL.split (dj := 25) rfl (fun h9 => ?_) (fun h9 => ?_)
      · refine RL.gT rfl (bR (c := true) h9) ?_
        refine RL.val rfl (run_move (v := U _) rfl) ?_
        refine RL.gT rfl (bR (c := true) h9) ?_
        refine RL.val rfl (run_move e1_1) ?_
        refine RL.gT rfl (bR (c := true) h9) ?_
        refine RL.val rfl (run_eqlU rfl rfl) ?_
        refine RL.val rfl (run_pickT (bR (c := true) h9) (v := B _) rfl) ?_
        refine RL.nil ?_
        refine CW.condP rfl (fun h11 => ?_) (fun h11 => ?_)
        · refine CW.seq ?_
          refine CW.region ?_
          refine RL.val rfl (run_move e6_1) ?_
          refine RL.val rfl (run_assign (v := I _) rfl) ?_
          refine RL.val rfl (run_assign (v := B true) rfl) ?_
          refine RL.nil ?_
          refine CW.ret ?_
          refine outP2 Try.results11 (congrArg I ?_) (congrArg B ?_) hH7.below <;> rw [level_ref h0 ‹_› hf ‹_›]
        · refine CW.skip ?_
          refine CW.region ?_
          refine RL.val rfl (run_move e6_1) ?_
          refine RL.val rfl (run_add rfl rfl (by omega)) ?_
          refine RL.val rfl (run_assign (v := I _) rfl) ?_
          refine RL.nil ?_
          refine ⟨k + 1, ?_, (((((((((((((((((((((((fr1.u rfl).u rfl).u rfl).u rfl).u rfl).u rfl).u rfl).u rfl).u rfl).u rfl).u rfl).u rfl).u rfl).u rfl).u rfl).u rfl).u rfl).u rfl).u rfl).u rfl).u rfl).u rfl).u rfl).u rfl, hH7, (congrArg I (by first | rfl | omega)), ?_, ?_, ?_, ?_⟩
          · ((try dsimp only); omega)
          · omega
          · omega
          · omega
          · exact level_step1 h0 ‹_› ‹_› hf
      · refine RL.gF rfl rfl (bR (c := false) h9) rfl ?_
        refine RL.gF rfl rfl (bR (c := false) h9) rfl ?_
        refine RL.gF rfl rfl (bR (c := false) h9) rfl ?_
        refine RL.val rfl (run_pickF (bR (c := false) h9) (v := B false) rfl) ?_
        refine RL.nil ?_
        refine CW.condF rfl ?_
        refine CW.skip ?_
        refine CW.region ?_
        refine RL.val rfl (run_move e6_1) ?_
        refine RL.val rfl (run_add rfl rfl (by omega)) ?_
        refine RL.val rfl (run_assign (v := I _) rfl) ?_
        refine RL.nil ?_
        refine ⟨k + 1, ?_, (((((((((((((((((((((((fr1.u rfl).u rfl).u rfl).u rfl).u rfl).u rfl).u rfl).u rfl).u rfl).u rfl).u rfl).u rfl).u rfl).u rfl).u rfl).u rfl).u rfl).u rfl).u rfl).u rfl).u rfl).u rfl).u rfl).u rfl, hH7, (congrArg I (by first | rfl | omega)), ?_, ?_, ?_, ?_⟩
        · ((try dsimp only); omega)
        · omega
        · omega
        · omega
        · exact level_step2 h0 ‹_› hf ‹_›
    · refine CW.exit (id := 0) rfl ?_
      refine CW.seq ?_
      refine CW.region ?_
      refine RL.val rfl (run_assign (v := I 0) rfl) ?_
      refine RL.val rfl (run_assign (v := B false) rfl) ?_
      refine RL.nil ?_
      refine CW.ret ?_
      refine outP2 Try.results11 (congrArg I ?_) (congrArg B ?_) hH1.below <;> rw [level_refnone h0 hk h6 hf (by omega)]
  · refine RL.gF rfl rfl (bF h3) rfl ?_
    refine RL.gF rfl rfl (bF h3) rfl ?_
    refine RL.val rfl (run_pickF (bF h3) (v := B false) rfl) ?_
    refine RL.nil ?_
    refine CW.condF rfl ?_
    refine CW.exit (id := 0) rfl ?_
    refine CW.seq ?_
    refine CW.region ?_
    refine RL.val rfl (run_assign (v := I 0) rfl) ?_
    refine RL.val rfl (run_assign (v := B false) rfl) ?_
    refine RL.nil ?_
    refine CW.ret ?_
    refine outP2 Try.results11 (congrArg I ?_) (congrArg B ?_) hH1.below <;> rw [level_refnone h0 hk h6 hf (by omega)]

theorem c_clearancelaw04_alive  (w : World) : Calls Try.prog 7 #[] w (Pure (B true) w) := by
  refine enter Try.func7 rfl Try.ntmps7 rfl ?_
  have hH := Hp.start w
  refine CW.seq ?_
  refine CW.region ?_
  refine RL.val rfl (run_assign (v := B false) rfl) ?_
  refine RL.nil ?_
  refine CW.seq ?_
  refine CW.region ?_
  refine RL.callP rfl hH (c_rung_Word _ _  _) (run_call2 Try.call6 (show _ = I 4 from rfl) (show _ = I 3 from rfl)) ?_
  intro w1 hH2
  refine RL.val rfl (run_move (by conv => lhs; whnf)) ?_
  refine RL.val rfl (run_extract rfl (v := U _) rfl) ?_
  refine RL.val rfl (run_extract rfl (v := B _) rfl) ?_
  refine RL.val rfl (run_assign (v := U _) rfl) ?_
  refine RL.val rfl (run_assign (v := B _) rfl) ?_
  refine RL.nil ?_
  refine CW.seq ?_
  refine CW.region ?_
  refine RL.callP rfl hH2 (c_rung_Level _ _  _) (run_call2 Try.call10 (show _ = I 4 from rfl) (show _ = U 5#64 from rfl)) ?_
  intro w4 hH5
  refine RL.val rfl (run_move (by conv => lhs; whnf)) ?_
  refine RL.val rfl (run_extract rfl (v := I _) rfl) ?_
  refine RL.val rfl (run_extract rfl (v := B _) rfl) ?_
  refine RL.val rfl (run_assign (v := I _) rfl) ?_
  refine RL.val rfl (run_assign (v := B _) rfl) ?_
  refine RL.nil ?_
  refine CW.seq ?_
  refine CW.region ?_
  refine RL.val rfl (run_move (v := B _) rfl) ?_
  refine RL.val rfl (run_move (v := B _) rfl) ?_
  refine RL.gT rfl (bR (c := true) (by decide)) ?_
  refine RL.val rfl (run_move (v := U _) rfl) ?_
  refine RL.gT rfl (bR (c := true) (by decide)) ?_
  refine RL.val rfl (run_eqlU rfl (b := 7#64) rfl) ?_
  refine RL.val rfl (run_pickT (bR (c := true) (by decide)) (v := B _) rfl) ?_
  refine RL.val rfl (run_move (v := B _) rfl) ?_
  refine RL.gT rfl (bT (by decide)) ?_
  refine RL.val rfl (run_move (v := B _) rfl) ?_
  refine RL.gT rfl (bT (by decide)) ?_
  refine RL.val rfl (run_not (bR (c := false) (by decide))) ?_
  refine RL.val rfl (run_pickT (bT (by decide)) (v := B _) rfl) ?_
  refine RL.val rfl (run_move (v := B _) rfl) ?_
  refine RL.gT rfl rfl ?_
  refine RL.callP rfl hH5 (c_rung_Top _  _) (run_call1 Try.call13 (show _ = I 4 from rfl)) ?_
  intro w8 hH9
  refine RL.gT rfl rfl ?_
  refine RL.val rfl (run_eqlU rfl (b := 7#64) rfl) ?_
  refine RL.val rfl (run_pickT rfl (v := B _) rfl) ?_
  refine RL.val rfl (run_assign (v := B _) rfl) ?_
  refine RL.nil ?_
  refine CW.ret ?_
  refine outP1 Try.results7 (congrArg B ?_) hH9.below
  rfl

theorem c_clearancelaw04_RungWord (n k : Int) (s : BitVec 64) (w : World) : Calls Try.prog 4 #[I n, I k, U s] w (Pure (B true) w) := by
  refine enter Try.func4 rfl Try.ntmps4 rfl ?_
  have hH := Hp.start w
  refine CW.seq ?_
  refine CW.region ?_
  refine RL.val rfl (run_assign (v := B false) rfl) ?_
  refine RL.nil ?_
  refine CW.seq ?_
  refine CW.region ?_
  refine RL.val rfl (run_move (v := I _) rfl) ?_
  refine RL.val rfl (run_move (v := I _) rfl) ?_
  refine RL.callP rfl hH (c_rung_Word _ _  _) (run_call2 Try.call6 rfl rfl) ?_
  intro w1 hH2
  refine RL.val rfl (run_move (by conv => lhs; whnf)) ?_
  refine RL.val rfl (run_extract rfl (v := U _) rfl) ?_
  refine RL.val rfl (run_extract rfl (v := B _) rfl) ?_
  refine RL.val rfl (run_assign (v := U _) rfl) ?_
  refine RL.val rfl (run_assign (v := B _) rfl) ?_
  refine RL.nil ?_
  refine CW.seq ?_
  refine CW.region ?_
  refine RL.val rfl (run_move (v := I _) rfl) ?_
  refine RL.val rfl (run_move (v := I _) rfl) ?_
  refine RL.callP rfl hH2 (c_clearanceref04_Word _ _  _) (run_call2 Try.call9 rfl rfl) ?_
  intro w4 hH5
  refine RL.val rfl (run_move (by conv => lhs; whnf)) ?_
  refine RL.val rfl (run_extract rfl (v := U _) rfl) ?_
  refine RL.val rfl (run_extract rfl (v := B _) rfl) ?_
  refine RL.val rfl (run_assign (v := U _) rfl) ?_
  refine RL.val rfl (run_assign (v := B _) rfl) ?_
  refine RL.nil ?_
  refine CW.seq ?_
  refine CW.region ?_
  refine RL.val rfl (run_move (v := I _) rfl) ?_
  refine RL.val rfl (run_move (v := U _) rfl) ?_
  refine RL.callP rfl hH5 (c_rung_Level _ _  _) (run_call2 Try.call10 rfl rfl) ?_
  intro w7 hH8
  refine RL.val rfl (run_move (by conv => lhs; whnf)) ?_
  refine RL.val rfl (run_extract rfl (v := I _) rfl) ?_
  refine RL.val rfl (run_extract rfl (v := B _) rfl) ?_
  refine RL.val rfl (run_assign (v := I _) rfl) ?_
  refine RL.val rfl (run_assign (v := B _) rfl) ?_
  refine RL.nil ?_
  refine CW.seq ?_
  refine CW.region ?_
  refine RL.val rfl (run_move (v := I _) rfl) ?_
  refine RL.val rfl (run_move (v := U _) rfl) ?_
  refine RL.callP rfl hH8 (c_clearanceref04_Level _ _  _) (run_call2 Try.call11 rfl rfl) ?_
  intro w10 hH11
  refine RL.val rfl (run_move (by conv => lhs; whnf)) ?_
  refine RL.val rfl (run_extract rfl (v := I _) rfl) ?_
  refine RL.val rfl (run_extract rfl (v := B _) rfl) ?_
  refine RL.val rfl (run_assign (v := I _) rfl) ?_
  refine RL.val rfl (run_assign (v := B _) rfl) ?_
  refine RL.nil ?_
  refine CW.seq ?_
  refine CW.region ?_
  refine RL.val rfl (run_move (v := U _) rfl) ?_
  refine RL.val rfl (run_move (v := U _) rfl) ?_
  refine RL.val rfl (run_eqlU rfl rfl) ?_
  refine RL.val rfl (run_move (v := B _) rfl) ?_
  refine RL.gT rfl (bT (rfl)) ?_
  refine RL.val rfl (run_move (v := B _) rfl) ?_
  refine RL.gT rfl (bT (rfl)) ?_
  refine RL.val rfl (run_move (v := B _) rfl) ?_
  refine RL.gT rfl (bT (rfl)) ?_
  refine RL.val rfl (run_eqlB Try.underlying4 rfl rfl) ?_
  refine RL.val rfl (run_pickT (bT (rfl)) (v := B _) rfl) ?_
  refine RL.val rfl (run_move (v := B _) rfl) ?_
  refine RL.gT rfl (bR (c := true) (beq_self_eq_true _)) ?_
  refine RL.val rfl (run_move (v := I _) rfl) ?_
  refine RL.gT rfl (bR (c := true) (beq_self_eq_true _)) ?_
  refine RL.val rfl (run_move (v := I _) rfl) ?_
  refine RL.gT rfl (bR (c := true) (beq_self_eq_true _)) ?_
  refine RL.val rfl (run_eql rfl rfl) ?_
  refine RL.val rfl (run_pickT (bR (c := true) (beq_self_eq_true _)) (v := B _) rfl) ?_
  refine RL.val rfl (run_move (v := B _) rfl) ?_
  refine RL.gT rfl (bT (rfl)) ?_
  refine RL.val rfl (run_move (v := B _) rfl) ?_
  refine RL.gT rfl (bT (rfl)) ?_
  refine RL.val rfl (run_move (v := B _) rfl) ?_
  refine RL.gT rfl (bT (rfl)) ?_
  refine RL.val rfl (run_eqlB Try.underlying4 rfl rfl) ?_
  refine RL.val rfl (run_pickT (bT (rfl)) (v := B _) rfl) ?_
  refine RL.val rfl (run_move (v := B _) rfl) ?_
  refine RL.gT rfl (bR (c := true) (beq_self_eq_true _)) ?_
  refine RL.val rfl (run_move (v := I _) rfl) ?_
  refine RL.gT rfl (bR (c := true) (beq_self_eq_true _)) ?_
  refine RL.val rfl (run_move (v := U _) rfl) ?_
  refine RL.gT rfl (bR (c := true) (beq_self_eq_true _)) ?_
  refine RL.callP rfl hH11 (c_rung_Right _ _  _) (run_call2 Try.call12 rfl rfl) ?_
  intro w17 hH18
  refine RL.gT rfl (bR (c := true) (beq_self_eq_true _)) ?_
  refine RL.val rfl (run_move (v := B _) rfl) ?_
  refine RL.gT rfl (bR (c := true) (beq_self_eq_true _)) ?_
  refine RL.val rfl (run_eqlB Try.underlying4 rfl rfl) ?_
  refine RL.val rfl (run_pickT (bR (c := true) (beq_self_eq_true _)) (v := B _) rfl) ?_
  refine RL.val rfl (run_move (v := B _) rfl) ?_
  refine RL.gT rfl (bR (c := true) (beq_self_eq_true _)) ?_
  refine RL.callP rfl hH18 (c_clearancelaw04_alive   _) (run_call0 Try.call7) ?_
  intro w21 hH22
  refine RL.val rfl (run_pickT (bR (c := true) (beq_self_eq_true _)) (v := B _) rfl) ?_
  refine RL.val rfl (run_assign (v := B _) rfl) ?_
  refine RL.nil ?_
  refine CW.ret ?_
  refine outP1 Try.results4 (congrArg B ?_) hH22.below
  rfl

theorem c_clearancelaw04_RungBack (n k : Int) (w : World) : Calls Try.prog 5 #[I n, I k] w (Pure (B true) w) := by
  refine enter Try.func5 rfl Try.ntmps5 rfl ?_
  have hH := Hp.start w
  refine CW.seq ?_
  refine CW.region ?_
  refine RL.val rfl (run_assign (v := B false) rfl) ?_
  refine RL.nil ?_
  refine CW.seq ?_
  refine CW.region ?_
  refine RL.val rfl (run_move (v := I _) rfl) ?_
  refine RL.val rfl (run_move (v := I _) rfl) ?_
  refine RL.callP rfl hH (c_rung_Word _ _  _) (run_call2 Try.call6 rfl rfl) ?_
  intro w1 hH2
  refine RL.val rfl (run_move (by conv => lhs; whnf)) ?_
  refine RL.val rfl (run_extract rfl (v := U _) rfl) ?_
  refine RL.val rfl (run_extract rfl (v := B _) rfl) ?_
  refine RL.val rfl (run_assign (v := U _) rfl) ?_
  refine RL.val rfl (run_assign (v := B _) rfl) ?_
  refine RL.nil ?_
  refine CW.seq ?_
  refine CW.seq ?_
  refine CW.region ?_
  refine RL.val rfl (run_move (v := B _) rfl) ?_
  refine RL.val rfl (run_not rfl) ?_
  refine RL.nil ?_
  refine CW.cond rfl (fun h5 => ?_) (fun h5 => ?_)
  · refine CW.seq ?_
    refine CW.region ?_
    refine RL.val rfl (run_move (v := U _) rfl) ?_
    refine RL.val rfl (run_eqlU rfl (b := 0#64) rfl) ?_
    refine RL.val rfl (run_move (v := B _) rfl) ?_
    refine RL.gT rfl (bT (rung_b0 ‹(!(wordv n k).2) = true›)) ?_
    refine RL.val rfl (run_move (v := I _) rfl) ?_
    refine RL.gT rfl (bT (rung_b0 ‹(!(wordv n k).2) = true›)) ?_
    refine RL.val rfl (run_lss rfl rfl) ?_
    refine RL.gT rfl (bT (rung_b0 ‹(!(wordv n k).2) = true›)) ?_
    refine RL.val rfl (run_move (v := B _) rfl) ?_
    refine RL.splitP (dj := 22) rfl (fun h8 => ?_) (fun h8 => ?_)
    · refine RL.gF rfl rfl (bT h8) rfl ?_
      refine RL.gF rfl rfl (bT h8) rfl ?_
      refine RL.gT rfl (bT (rung_b0 ‹(!(wordv n k).2) = true›)) ?_
      refine RL.val rfl (run_pickT (bT h8) (v := B true) rfl) ?_
      refine RL.gT rfl (bT (rung_b0 ‹(!(wordv n k).2) = true›)) ?_
      refine RL.val rfl (run_move (v := B _) rfl) ?_
      refine RL.gF rfl rfl rfl rfl ?_
      refine RL.gF rfl rfl rfl rfl ?_
      refine RL.gT rfl (bT (rung_b0 ‹(!(wordv n k).2) = true›)) ?_
      refine RL.val rfl (run_pickT rfl (v := B true) rfl) ?_
      refine RL.gT rfl (bT (rung_b0 ‹(!(wordv n k).2) = true›)) ?_
      refine RL.val rfl (run_move (v := B _) rfl) ?_
      refine RL.gF rfl rfl rfl rfl ?_
      refine RL.gF rfl rfl rfl rfl ?_
      refine RL.gF rfl rfl rfl rfl ?_
      refine RL.gT rfl (bT (rung_b0 ‹(!(wordv n k).2) = true›)) ?_
      refine RL.val rfl (run_pickT rfl (v := B true) rfl) ?_
      refine RL.val rfl (run_pickT (bT (rung_b0 ‹(!(wordv n k).2) = true›)) (v := B _) rfl) ?_
      refine RL.val rfl (run_move (v := B _) rfl) ?_
      refine RL.gT rfl rfl ?_
      refine RL.callP rfl hH2 (c_clearancelaw04_alive   _) (run_call0 Try.call7) ?_
      intro w9 hH10
      refine RL.val rfl (run_pickT rfl (v := B _) rfl) ?_
      refine RL.val rfl (run_assign (v := B _) rfl) ?_
      refine RL.nil ?_
      refine CW.ret ?_
      refine outP1 Try.results5 (congrArg B ?_) hH10.below
      first | rfl | (exfalso; have := wordv_isnt (n := n) (k := k) (by simpa using ‹(!(wordv n k).2) = true›); omega)
    · refine RL.gT rfl (bF h8) ?_
      refine RL.val rfl (run_move (v := I _) rfl) ?_
      refine RL.gT rfl (bF h8) ?_
      refine RL.val rfl (run_gtr rfl rfl) ?_
      refine RL.gT rfl (bT (rung_b0 ‹(!(wordv n k).2) = true›)) ?_
      refine RL.val rfl (run_pickF (bF h8) (v := B _) rfl) ?_
      refine RL.gT rfl (bT (rung_b0 ‹(!(wordv n k).2) = true›)) ?_
      refine RL.val rfl (run_move (v := B _) rfl) ?_
      refine RL.splitP (dj := 26) rfl (fun h13 => ?_) (fun h13 => ?_)
      · refine RL.gF rfl rfl (bT h13) rfl ?_
        refine RL.gF rfl rfl (bT h13) rfl ?_
        refine RL.gT rfl (bT (rung_b0 ‹(!(wordv n k).2) = true›)) ?_
        refine RL.val rfl (run_pickT (bT h13) (v := B true) rfl) ?_
        refine RL.gT rfl (bT (rung_b0 ‹(!(wordv n k).2) = true›)) ?_
        refine RL.val rfl (run_move (v := B _) rfl) ?_
        refine RL.gF rfl rfl rfl rfl ?_
        refine RL.gF rfl rfl rfl rfl ?_
        refine RL.gF rfl rfl rfl rfl ?_
        refine RL.gT rfl (bT (rung_b0 ‹(!(wordv n k).2) = true›)) ?_
        refine RL.val rfl (run_pickT rfl (v := B true) rfl) ?_
        refine RL.val rfl (run_pickT (bT (rung_b0 ‹(!(wordv n k).2) = true›)) (v := B _) rfl) ?_
        refine RL.val rfl (run_move (v := B _) rfl) ?_
        refine RL.gT rfl rfl ?_
        refine RL.callP rfl hH2 (c_clearancelaw04_alive   _) (run_call0 Try.call7) ?_
        intro w14 hH15
        refine RL.val rfl (run_pickT rfl (v := B _) rfl) ?_
        refine RL.val rfl (run_assign (v := B _) rfl) ?_
        refine RL.nil ?_
        refine CW.ret ?_
        refine outP1 Try.results5 (congrArg B ?_) hH15.below
        first | rfl | (exfalso; have := wordv_isnt (n := n) (k := k) (by simpa using ‹(!(wordv n k).2) = true›); omega)
      · refine RL.gT rfl (bF h13) ?_
        refine RL.val rfl (run_move (v := I _) rfl) ?_
        refine RL.gT rfl (bF h13) ?_
        refine RL.val rfl (run_lss rfl rfl) ?_
        refine RL.gT rfl (bT (rung_b0 ‹(!(wordv n k).2) = true›)) ?_
        refine RL.val rfl (run_pickF (bF h13) (v := B _) rfl) ?_
        refine RL.gT rfl (bT (rung_b0 ‹(!(wordv n k).2) = true›)) ?_
        refine RL.val rfl (run_move (v := B _) rfl) ?_
        refine RL.splitP (dj := 30) rfl (fun h18 => ?_) (fun h18 => ?_)
        · refine RL.gF rfl rfl (bT h18) rfl ?_
          refine RL.gF rfl rfl (bT h18) rfl ?_
          refine RL.gF rfl rfl (bT h18) rfl ?_
          refine RL.gT rfl (bT (rung_b0 ‹(!(wordv n k).2) = true›)) ?_
          refine RL.val rfl (run_pickT (bT h18) (v := B true) rfl) ?_
          refine RL.val rfl (run_pickT (bT (rung_b0 ‹(!(wordv n k).2) = true›)) (v := B _) rfl) ?_
          refine RL.val rfl (run_move (v := B _) rfl) ?_
          refine RL.gT rfl rfl ?_
          refine RL.callP rfl hH2 (c_clearancelaw04_alive   _) (run_call0 Try.call7) ?_
          intro w19 hH20
          refine RL.val rfl (run_pickT rfl (v := B _) rfl) ?_
          refine RL.val rfl (run_assign (v := B _) rfl) ?_
          refine RL.nil ?_
          refine CW.ret ?_
          refine outP1 Try.results5 (congrArg B ?_) hH20.below
          first | rfl | (exfalso; have := wordv_isnt (n := n) (k := k) (by simpa using ‹(!(wordv n k).2) = true›); omega)
        · refine RL.gT rfl (bF h18) ?_
          refine RL.val rfl (run_move (v := I _) rfl) ?_
          refine RL.gT rfl (bF h18) ?_
          refine RL.val rfl (run_move (v := I _) rfl) ?_
          refine RL.gT rfl (bF h18) ?_
          refine RL.val rfl (run_geq rfl rfl) ?_
          refine RL.gT rfl (bT (rung_b0 ‹(!(wordv n k).2) = true›)) ?_
          refine RL.val rfl (run_pickF (bF h18) (v := B _) rfl) ?_
          refine RL.val rfl (run_pickT (bT (rung_b0 ‹(!(wordv n k).2) = true›)) (v := B _) rfl) ?_
          refine RL.val rfl (run_move (v := B _) rfl) ?_
          refine RL.splitP (dj := 36) rfl (fun h23 => ?_) (fun h23 => ?_)
          · refine RL.gT rfl (bT h23) ?_
            refine RL.callP rfl hH2 (c_clearancelaw04_alive   _) (run_call0 Try.call7) ?_
            intro w24 hH25
            refine RL.val rfl (run_pickT (bT h23) (v := B _) rfl) ?_
            refine RL.val rfl (run_assign (v := B _) rfl) ?_
            refine RL.nil ?_
            refine CW.ret ?_
            refine outP1 Try.results5 (congrArg B ?_) hH25.below
            first | rfl | (exfalso; have := wordv_isnt (n := n) (k := k) (by simpa using ‹(!(wordv n k).2) = true›); omega)
          · refine RL.gF rfl rfl (bF h23) rfl ?_
            refine RL.val rfl (run_pickF (bF h23) (v := B false) rfl) ?_
            refine RL.val rfl (run_assign (v := B _) rfl) ?_
            refine RL.nil ?_
            refine CW.ret ?_
            refine outP1 Try.results5 (congrArg B ?_) hH2.below
            first | rfl | (exfalso; have := wordv_isnt (n := n) (k := k) (by simpa using ‹(!(wordv n k).2) = true›); omega)
  · refine CW.skip ?_
    refine CW.seq ?_
    refine CW.region ?_
    refine RL.val rfl (run_move (v := I _) rfl) ?_
    refine RL.val rfl (run_move (v := U _) rfl) ?_
    refine RL.callP rfl hH2 (c_rung_Level _ _  _) (run_call2 Try.call10 rfl rfl) ?_
    intro w27 hH28
    refine RL.val rfl (run_move (by conv => lhs; whnf)) ?_
    refine RL.val rfl (run_extract rfl (v := I _) rfl) ?_
    refine RL.val rfl (run_extract rfl (v := B _) rfl) ?_
    refine RL.val rfl (run_assign (v := I _) rfl) ?_
    refine RL.val rfl (run_assign (v := B _) rfl) ?_
    refine RL.nil ?_
    refine CW.seq ?_
    refine CW.region ?_
    refine RL.val rfl (run_move (v := B _) rfl) ?_
    refine RL.val rfl (run_move (v := B _) rfl) ?_
    refine RL.gT rfl (bR (c := true) (rung_b1 ‹(!(wordv n k).2) = false›)) ?_
    refine RL.val rfl (run_move (v := I _) rfl) ?_
    refine RL.gT rfl (bR (c := true) (rung_b1 ‹(!(wordv n k).2) = false›)) ?_
    refine RL.val rfl (run_move (v := I _) rfl) ?_
    refine RL.gT rfl (bR (c := true) (rung_b1 ‹(!(wordv n k).2) = false›)) ?_
    refine RL.val rfl (run_eql rfl rfl) ?_
    refine RL.val rfl (run_pickT (bR (c := true) (rung_b1 ‹(!(wordv n k).2) = false›)) (v := B _) rfl) ?_
    refine RL.val rfl (run_move (v := B _) rfl) ?_
    refine RL.gT rfl (bT (rung_b2 ‹(!(wordv n k).2) = false›)) ?_
    refine RL.val rfl (run_move (v := I _) rfl) ?_
    refine RL.gT rfl (bT (rung_b2 ‹(!(wordv n k).2) = false›)) ?_
    refine RL.val rfl (run_move (v := U _) rfl) ?_
    refine RL.gT rfl (bT (rung_b2 ‹(!(wordv n k).2) = false›)) ?_
    refine RL.callP rfl hH28 (c_rung_Right _ _  _) (run_call2 Try.call12 rfl rfl) ?_
    intro w31 hH32
    refine RL.val rfl (run_pickT (bT (rung_b2 ‹(!(wordv n k).2) = false›)) (v := B _) rfl) ?_
    refine RL.val rfl (run_move (v := B _) rfl) ?_
    refine RL.gT rfl (bR (c := true) (rung_b1 ‹(!(wordv n k).2) = false›)) ?_
    refine RL.val rfl (run_move (v := U _) rfl) ?_
    refine RL.gT rfl (bR (c := true) (rung_b1 ‹(!(wordv n k).2) = false›)) ?_
    refine RL.val rfl (run_move (v := I _) rfl) ?_
    refine RL.gT rfl (bR (c := true) (rung_b1 ‹(!(wordv n k).2) = false›)) ?_
    refine RL.callP rfl hH32 (c_rung_Top _  _) (run_call1 Try.call13 rfl) ?_
    intro w34 hH35
    refine RL.gT rfl (bR (c := true) (rung_b1 ‹(!(wordv n k).2) = false›)) ?_
    refine RL.callP rfl hH35 (c_mask_Sub _ _  _) (run_call2 Try.call8 rfl rfl) ?_
    intro w36 hH37
    refine RL.val rfl (run_pickT (bR (c := true) (rung_b1 ‹(!(wordv n k).2) = false›)) (v := B _) rfl) ?_
    refine RL.val rfl (run_move (v := B _) rfl) ?_
    refine RL.gT rfl (bR (c := true) (rung_b3 ‹(!(wordv n k).2) = false›)) ?_
    refine RL.val rfl (run_move (v := I _) rfl) ?_
    refine RL.gT rfl (bR (c := true) (rung_b3 ‹(!(wordv n k).2) = false›)) ?_
    refine RL.callP rfl hH37 (c_rung_Top _  _) (run_call1 Try.call13 rfl) ?_
    intro w39 hH40
    refine RL.gT rfl (bR (c := true) (rung_b3 ‹(!(wordv n k).2) = false›)) ?_
    refine RL.callP rfl hH40 (c_mask_Count _  _) (run_call1 Try.call14 rfl) ?_
    intro w41 hH42
    refine RL.gT rfl (bR (c := true) (rung_b3 ‹(!(wordv n k).2) = false›)) ?_
    refine RL.val rfl (run_move (v := I _) rfl) ?_
    refine RL.gT rfl (bR (c := true) (rung_b3 ‹(!(wordv n k).2) = false›)) ?_
    refine RL.val rfl (run_sub rfl rfl (by exact rung_b5 ‹(!(wordv n k).2) = false›)) ?_
    refine RL.gT rfl (bR (c := true) (rung_b3 ‹(!(wordv n k).2) = false›)) ?_
    refine RL.val rfl (run_eql rfl rfl) ?_
    refine RL.val rfl (run_pickT (bR (c := true) (rung_b3 ‹(!(wordv n k).2) = false›)) (v := B _) rfl) ?_
    refine RL.val rfl (run_move (v := B _) rfl) ?_
    refine RL.gT rfl (bT (rung_b4 ‹(!(wordv n k).2) = false›)) ?_
    refine RL.callP rfl hH42 (c_clearancelaw04_alive   _) (run_call0 Try.call7) ?_
    intro w44 hH45
    refine RL.val rfl (run_pickT (bT (rung_b4 ‹(!(wordv n k).2) = false›)) (v := B _) rfl) ?_
    refine RL.val rfl (run_assign (v := B _) rfl) ?_
    refine RL.nil ?_
    refine CW.ret ?_
    refine outP1 Try.results5 (congrArg B ?_) hH45.below
    first | rfl | (exfalso; have := wordv_isnt (n := n) (k := k) (by simpa using ‹(!(wordv n k).2) = true›); omega)

theorem c_clearancelaw04_RungOrder (n i j : Int) (w : World) : Calls Try.prog 3 #[I n, I i, I j] w (Pure (B true) w) := by
  refine enter Try.func3 rfl Try.ntmps3 rfl ?_
  have hH := Hp.start w
  refine CW.seq ?_
  refine CW.region ?_
  refine RL.val rfl (run_assign (v := B false) rfl) ?_
  refine RL.nil ?_
  refine CW.seq ?_
  refine CW.region ?_
  refine RL.val rfl (run_move (v := I _) rfl) ?_
  refine RL.val rfl (run_move (v := I _) rfl) ?_
  refine RL.callP rfl hH (c_rung_Word _ _  _) (run_call2 Try.call6 rfl rfl) ?_
  intro w1 hH2
  refine RL.val rfl (run_move (by conv => lhs; whnf)) ?_
  refine RL.val rfl (run_extract rfl (v := U _) rfl) ?_
  refine RL.val rfl (run_extract rfl (v := B _) rfl) ?_
  refine RL.val rfl (run_assign (v := U _) rfl) ?_
  refine RL.val rfl (run_assign (v := B _) rfl) ?_
  refine RL.nil ?_
  refine CW.seq ?_
  refine CW.region ?_
  refine RL.val rfl (run_move (v := I _) rfl) ?_
  refine RL.val rfl (run_move (v := I _) rfl) ?_
  refine RL.callP rfl hH2 (c_rung_Word _ _  _) (run_call2 Try.call6 rfl rfl) ?_
  intro w4 hH5
  refine RL.val rfl (run_move (by conv => lhs; whnf)) ?_
  refine RL.val rfl (run_extract rfl (v := U _) rfl) ?_
  refine RL.val rfl (run_extract rfl (v := B _) rfl) ?_
  refine RL.val rfl (run_assign (v := U _) rfl) ?_
  refine RL.val rfl (run_assign (v := B _) rfl) ?_
  refine RL.nil ?_
  refine CW.seq ?_
  refine CW.seq ?_
  refine CW.region ?_
  refine RL.val rfl (run_move (v := B _) rfl) ?_
  refine RL.val rfl (run_not rfl) ?_
  refine RL.val rfl (run_move (v := B _) rfl) ?_
  refine RL.split (dj := 29) rfl (fun h8 => ?_) (fun h8 => ?_)
  · refine RL.gF rfl rfl (bR (c := true) h8) rfl ?_
    refine RL.gF rfl rfl (bR (c := true) h8) rfl ?_
    refine RL.val rfl (run_pickT (bR (c := true) h8) (v := B true) rfl) ?_
    refine RL.nil ?_
    refine CW.condT rfl ?_
    refine CW.seq ?_
    refine CW.region ?_
    refine RL.callP rfl hH5 (c_clearancelaw04_alive   _) (run_call0 Try.call7) ?_
    intro w9 hH10
    refine RL.val rfl (run_assign (v := B _) rfl) ?_
    refine RL.nil ?_
    refine CW.ret ?_
    refine outP1 Try.results3 (congrArg B ?_) hH10.below
    rfl
  · refine RL.gT rfl (bR (c := false) h8) ?_
    refine RL.val rfl (run_move (v := B _) rfl) ?_
    refine RL.gT rfl (bR (c := false) h8) ?_
    refine RL.val rfl (run_not rfl) ?_
    refine RL.val rfl (run_pickF (bR (c := false) h8) (v := B _) rfl) ?_
    refine RL.nil ?_
    refine CW.cond rfl (fun h13 => ?_) (fun h13 => ?_)
    · refine CW.seq ?_
      refine CW.region ?_
      refine RL.callP rfl hH5 (c_clearancelaw04_alive   _) (run_call0 Try.call7) ?_
      intro w14 hH15
      refine RL.val rfl (run_assign (v := B _) rfl) ?_
      refine RL.nil ?_
      refine CW.ret ?_
      refine outP1 Try.results3 (congrArg B ?_) hH15.below
      rfl
    · refine CW.skip ?_
      refine CW.seq ?_
      refine CW.region ?_
      refine RL.val rfl (run_move (v := I _) rfl) ?_
      refine RL.val rfl (run_move (v := I _) rfl) ?_
      refine RL.val rfl (run_move (v := I _) rfl) ?_
      refine RL.val rfl (run_maxI rfl rfl) ?_
      refine RL.callP rfl hH5 (c_rung_Word _ _  _) (run_call2 Try.call6 rfl rfl) ?_
      intro w17 hH18
      refine RL.val rfl (run_move (by conv => lhs; whnf)) ?_
      refine RL.val rfl (run_extract rfl (v := U _) rfl) ?_
      refine RL.val rfl (run_extract rfl (v := B _) rfl) ?_
      refine RL.val rfl (run_assign (v := U _) rfl) ?_
      refine RL.val rfl (run_assign (v := B _) rfl) ?_
      refine RL.nil ?_
      refine CW.seq ?_
      refine CW.region ?_
      refine RL.val rfl (run_move (v := I _) rfl) ?_
      refine RL.val rfl (run_move (v := I _) rfl) ?_
      refine RL.val rfl (run_move (v := I _) rfl) ?_
      refine RL.val rfl (run_minI rfl rfl) ?_
      refine RL.callP rfl hH18 (c_rung_Word _ _  _) (run_call2 Try.call6 rfl rfl) ?_
      intro w20 hH21
      refine RL.val rfl (run_move (by conv => lhs; whnf)) ?_
      refine RL.val rfl (run_extract rfl (v := U _) rfl) ?_
      refine RL.val rfl (run_extract rfl (v := B _) rfl) ?_
      refine RL.val rfl (run_assign (v := U _) rfl) ?_
      refine RL.val rfl (run_assign (v := B _) rfl) ?_
      refine RL.nil ?_
      refine CW.seq ?_
      refine CW.region ?_
      refine RL.val rfl (run_move (v := U _) rfl) ?_
      refine RL.val rfl (run_move (v := U _) rfl) ?_
      refine RL.callP rfl hH21 (c_mask_Sub _ _  _) (run_call2 Try.call8 rfl rfl) ?_
      intro w23 hH24
      refine RL.val rfl (run_move (v := I _) rfl) ?_
      refine RL.val rfl (run_move (v := I _) rfl) ?_
      refine RL.val rfl (run_leq rfl rfl) ?_
      refine RL.val rfl (run_eqlB Try.underlying4 rfl rfl) ?_
      refine RL.val rfl (run_move (v := B _) rfl) ?_
      refine RL.gT rfl (bR (c := true) (rung_o1 (by simpa using ‹(!(wordv n i).2) = false›) (by simpa using ‹(!(wordv n j).2) = false›))) ?_
      refine RL.val rfl (run_move (v := U _) rfl) ?_
      refine RL.gT rfl (bR (c := true) (rung_o1 (by simpa using ‹(!(wordv n i).2) = false›) (by simpa using ‹(!(wordv n j).2) = false›))) ?_
      refine RL.val rfl (run_move (v := U _) rfl) ?_
      refine RL.gT rfl (bR (c := true) (rung_o1 (by simpa using ‹(!(wordv n i).2) = false›) (by simpa using ‹(!(wordv n j).2) = false›))) ?_
      refine RL.val rfl (run_orU rfl rfl) ?_
      refine RL.gT rfl (bR (c := true) (rung_o1 (by simpa using ‹(!(wordv n i).2) = false›) (by simpa using ‹(!(wordv n j).2) = false›))) ?_
      refine RL.val rfl (run_move (v := U _) rfl) ?_
      refine RL.gT rfl (bR (c := true) (rung_o1 (by simpa using ‹(!(wordv n i).2) = false›) (by simpa using ‹(!(wordv n j).2) = false›))) ?_
      refine RL.val rfl (run_eqlU rfl rfl) ?_
      refine RL.val rfl (run_pickT (bR (c := true) (rung_o1 (by simpa using ‹(!(wordv n i).2) = false›) (by simpa using ‹(!(wordv n j).2) = false›))) (v := B _) rfl) ?_
      refine RL.val rfl (run_move (v := B _) rfl) ?_
      refine RL.gT rfl (bT (rung_o2 (by simpa using ‹(!(wordv n i).2) = false›) (by simpa using ‹(!(wordv n j).2) = false›))) ?_
      refine RL.val rfl (run_move (v := U _) rfl) ?_
      refine RL.gT rfl (bT (rung_o2 (by simpa using ‹(!(wordv n i).2) = false›) (by simpa using ‹(!(wordv n j).2) = false›))) ?_
      refine RL.val rfl (run_move (v := U _) rfl) ?_
      refine RL.gT rfl (bT (rung_o2 (by simpa using ‹(!(wordv n i).2) = false›) (by simpa using ‹(!(wordv n j).2) = false›))) ?_
      refine RL.val rfl (run_andU rfl rfl) ?_
      refine RL.gT rfl (bT (rung_o2 (by simpa using ‹(!(wordv n i).2) = false›) (by simpa using ‹(!(wordv n j).2) = false›))) ?_
      refine RL.val rfl (run_move (v := U _) rfl) ?_
      refine RL.gT rfl (bT (rung_o2 (by simpa using ‹(!(wordv n i).2) = false›) (by simpa using ‹(!(wordv n j).2) = false›))) ?_
      refine RL.val rfl (run_eqlU rfl rfl) ?_
      refine RL.val rfl (run_pickT (bT (rung_o2 (by simpa using ‹(!(wordv n i).2) = false›) (by simpa using ‹(!(wordv n j).2) = false›))) (v := B _) rfl) ?_
      refine RL.val rfl (run_move (v := B _) rfl) ?_
      refine RL.gT rfl (bT (rung_o3 (by simpa using ‹(!(wordv n i).2) = false›) (by simpa using ‹(!(wordv n j).2) = false›))) ?_
      refine RL.callP rfl hH24 (c_clearancelaw04_alive   _) (run_call0 Try.call7) ?_
      intro w30 hH31
      refine RL.val rfl (run_pickT (bT (rung_o3 (by simpa using ‹(!(wordv n i).2) = false›) (by simpa using ‹(!(wordv n j).2) = false›))) (v := B _) rfl) ?_
      refine RL.val rfl (run_assign (v := B _) rfl) ?_
      refine RL.nil ?_
      refine CW.ret ?_
      refine outP1 Try.results3 (congrArg B ?_) hH31.below
      rfl

end Go.Proofs.Ytbdhifdijdjlbaa.W
