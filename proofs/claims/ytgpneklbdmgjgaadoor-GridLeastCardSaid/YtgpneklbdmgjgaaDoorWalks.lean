/-
  The walks of the functions that the laws of this seat reach, part 4: each returns what its plain counterpart tells, and turns nothing that was there.
-/
import Derived.Test.YtgpneklbdmgjgaaDoorProg
import Derived.Test.YtgpneklbdmgjgaaDoorEnv
import Derived.Test.YtgpneklbdmgjgaaDoorPlain
import Derived.Test.YtgpneklbdmgjgaaDoorBase
import Derived.Test.YtgpneklbdmgjgaaDoorOrd
import Derived.Test.YtgpneklbdmgjgaaDoorRel
import Derived.Test.YtgpneklbdmgjgaaDoorClo
import Derived.Test.YtgpneklbdmgjgaaDoorCov
import Derived.Test.YtgpneklbdmgjgaaDoorArr
import Derived.Test.YtgpneklbdmgjgaaDoorHas
import Derived.Test.YtgpneklbdmgjgaaDoorGrd
import Derived.Test.YtgpneklbdmgjgaaDoorWalksC
namespace Go.Proofs.YtgpneklbdmgjgaaDoor.W
open Go Go.RowKit Go.Proofs.YtgpneklbdmgjgaaDoor.E Go.Proofs.YtgpneklbdmgjgaaDoor.M
set_option linter.unusedVariables false
set_option linter.unusedSimpArgs false
set_option maxRecDepth 100000

theorem c_clearanceref05_Close (r : Rl) (s : BitVec 64) (w : World) : Calls Tryd.prog 70 #[.agg (relC r), U s] w (Pure (U (closeG r s)) w) := by
  refine enter Tryd.func70 rfl Tryd.ntmps70 rfl ?_
  have hH := Hp.start w
  refine CW.seq ?_
  refine CW.region ?_
  refine RL.new rfl hH (f := fun b => (.pointer (some ⟨b, 0, none⟩))) (run_box (v := .agg _) rfl) ?_
  intro b3 w1 hH2
  refine RL.val rfl (run_assign (v := U 0#64) rfl) ?_
  refine RL.nil ?_
  refine CW.seq ?_
  refine CW.region ?_
  refine RL.val rfl (run_assign (v := .slice none 0 0) rfl) ?_
  have hH4 := hH2.nilRow 3 1
  refine RL.nil ?_
  refine CW.seq ?_
  refine CW.seq ?_
  refine CW.region ?_
  refine RL.val rfl (run_ldRel Tryd.underlying25 rfl rfl rfl (hH4.blk (i := 1) rfl)) ?_
  refine RL.callP rfl hH4 (c_clearanceref05_Right _  _) (run_call1 Tryd.call66 rfl) ?_
  intro w5 hH6
  refine RL.val rfl (run_not rfl) ?_
  refine RL.nil ?_
  refine CW.cond rfl (fun h9 => ?_) (fun h9 => ?_)
  · refine CW.seq ?_
    refine CW.region ?_
    refine RL.val rfl (run_assign (v := U 0#64) rfl) ?_
    refine RL.nil ?_
    refine CW.ret ?_
    refine outP1 Tryd.results70 (congrArg U ?_) hH6.below
    first | exact (close_no (nt ‹_›)).symm | (rw [hl]; exact close_ref hr (by omega))
  · refine CW.skip ?_
    refine CW.seq ?_
    refine CW.seq ?_
    refine CW.region ?_
    refine RL.val rfl (run_assign (v := I 0) rfl) ?_
    refine RL.nil ?_
    refine CW.block ?_
    have hr : rightG r = true := nf ‹_›
    have hs := right_spec hr
    refine CW.loop (G := (Int) × (List Int) × (Value)) (fun (⟨o, l, v5⟩ : (Int) × (List Int) × (Value)) s' w' => (Fr [5, 6, 7, 11, 12, 13, 14, 15, 16, 17, 18, 19, 20, 21, 22, 23, 24, 25, 26, 27, 28, 29, 30, 31, 32, 33, 34] _ s') ∧ (Hp w w' (.row v5 3 1 (l.length) (l.map I) :: _)) ∧ (s' 5 = v5) ∧ (s' 6 = I o) ∧ (0 ≤ o) ∧ (o ≤ r.n) ∧ (l = closeL r s o)) (fun (⟨o, l, v5⟩ : (Int) × (List Int) × (Value)) => (r.n - o).toNat) ((0, [], (.slice none 0 0 : Value))) ⟨Fr.refl _ _, hH6, rfl, rfl, (by omega), (by omega), rfl⟩ ?_
    rintro ⟨o, l, v5⟩ sg10 w10 ⟨fr10, hH10, e5_10, e6_10, o0, o1, hl⟩
    have e1_10 : sg10 1 = U _ := (fr10 1 rfl).trans rfl
    have e2_10 : sg10 2 = .pointer (some ⟨_, _, none⟩) := (fr10 2 rfl).trans rfl
    have e4_10 : sg10 4 = U _ := (fr10 4 rfl).trans rfl
    refine CW.seq ?_
    refine CW.seq ?_
    refine CW.region ?_
    refine RL.val rfl (run_move e6_10) ?_
    refine RL.val rfl (run_fieldAddr Tryd.underlying25 rfl (off := 0) rfl Tryd.sizeOf3 (by decide) e2_10) ?_
    refine RL.val rfl (run_ld Tryd.underlying3 rfl rfl (hH10.cell (i := 1) rfl (relC_N _))) ?_
    refine RL.val rfl (run_lss rfl rfl) ?_
    refine RL.nil ?_
    refine CW.condP rfl (fun h12 => ?_) (fun h12 => ?_)
    · refine CW.skip ?_
      refine CW.seq ?_
      refine CW.block ?_
      refine CW.seq ?_
      refine CW.region ?_
      refine RL.val rfl (run_assign (v := I 0) rfl) ?_
      refine RL.nil ?_
      refine CW.block ?_
      refine CW.loop (G := (Int) × (List Int) × (Value)) (fun (⟨x, l2, v5⟩ : (Int) × (List Int) × (Value)) s' w' => (Fr [5, 7, 17, 18, 19, 20, 21, 22, 23, 24, 25, 26, 27, 28, 29, 30, 31, 32, 33, 34] _ s') ∧ (Hp w w' (.row v5 3 1 (l2.length) (l2.map I) :: _)) ∧ (s' 5 = v5) ∧ (s' 7 = I x) ∧ (0 ≤ x) ∧ (x ≤ r.n) ∧ (l2 = closeL r s o ++ rowL r s o x)) (fun (⟨x, l2, v5⟩ : (Int) × (List Int) × (Value)) => (r.n - x).toNat) ((0, l, (v5 : Value))) ⟨Fr.refl _ _, hH10, e5_10, rfl, (by omega), (by omega), (by rw [hl, rowL]; simp [upto])⟩ ?_
      rintro ⟨x, l2, v5⟩ sg13 w13 ⟨fr13, hH13, e5_13, e7_13, x0, x1, h2⟩
      have e1_13 := (fr13 1 rfl).trans e1_10
      have e2_13 := (fr13 2 rfl).trans e2_10
      have e4_13 := (fr13 4 rfl).trans e4_10
      have e6_13 := (fr13 6 rfl).trans e6_10
      have e11_13 : sg13 11 = I _ := (fr13 11 rfl).trans rfl
      have e12_13 : sg13 12 = .pointer (some ⟨_, _, none⟩) := (fr13 12 rfl).trans rfl
      have e13_13 : sg13 13 = I _ := (fr13 13 rfl).trans rfl
      have e14_13 : sg13 14 = B _ := (fr13 14 rfl).trans rfl
      refine CW.seq ?_
      refine CW.seq ?_
      refine CW.region ?_
      refine RL.val rfl (run_move e7_13) ?_
      refine RL.val rfl (run_fieldAddr Tryd.underlying25 rfl (off := 0) rfl Tryd.sizeOf3 (by decide) e2_13) ?_
      refine RL.val rfl (run_ld Tryd.underlying3 rfl rfl (hH13.cell (i := 1) rfl (relC_N _))) ?_
      refine RL.val rfl (run_lss rfl rfl) ?_
      refine RL.nil ?_
      refine CW.condP rfl (fun h15 => ?_) (fun h15 => ?_)
      · refine CW.skip ?_
        refine CW.seq ?_
        refine CW.block ?_
        refine CW.seq ?_
        refine CW.region ?_
        refine RL.val rfl (run_ldRel Tryd.underlying25 rfl rfl e2_13 (hH13.blk (i := 1) rfl)) ?_
        refine RL.val rfl (run_move e1_13) ?_
        refine RL.val rfl (run_move e6_13) ?_
        refine RL.val rfl (run_move e7_13) ?_
        refine RL.callP rfl hH13 (c_clearanceref05_follows _ _ _ _ (by first | assumption | omega) _) (run_call4 Tryd.call105 rfl rfl rfl rfl) ?_
        intro w16 hH17
        refine RL.nil ?_
        refine CW.cond rfl (fun h19 => ?_) (fun h19 => ?_)
        · refine CW.region ?_
          refine RL.val rfl (run_move e5_13) ?_
          refine RL.val rfl (run_move e6_13) ?_
          refine RL.val rfl (run_mul rfl rfl (by omega)) ?_
          refine RL.val rfl (run_move e7_13) ?_
          refine RL.val rfl (run_add rfl rfl (by omega)) ?_
          refine RL.new rfl hH17 (f := fun b => (.slice (some ⟨b, 0, none⟩) 1 1)) (run_mkL Tryd.underlying36 rfl rfl (sz := 1) (vs := [I _]) rfl rfl (by decide) (by decide) rfl rfl) ?_
          intro b22 w20 hH21
          (try simp only [List.flatMap_cons, List.flatMap_nil, clI, clB, clS, clP, clL, clA, List.append_nil, List.cons_append, List.nil_append] at hH21)
          refine RL.app rfl hH21 (i := 1) rfl (hH21.slBlk (i := 0) (n := 1) (sz := 1) rfl rfl (by decide)) rfl rfl Tryd.underlying36 rfl rfl (size := 1) (bytes := 8) rfl rfl rfl (by decide) (by simp [Value.oneCell']) (by rw [h2]; have := @closeL_len r s o hs.1.2 (by omega); have := @rowL_len r s o x; simp; omega) (by rw [h2]; have := @closeL_len r s o hs.1.2 (by omega); have := @rowL_len r s o x; simp only [maxLen]; simp; omega) ?_
          intro v23 w24 hH25
          simp only [List.set_cons_zero, List.set_cons_succ] at hH25
          refine RL.val rfl (run_assign (by conv => lhs; whnf)) ?_
          refine RL.nil ?_
          refine CW.region ?_
          refine RL.val rfl (run_move e7_13) ?_
          refine RL.val rfl (run_add rfl rfl (by omega)) ?_
          refine RL.val rfl (run_assign (v := I _) rfl) ?_
          refine RL.nil ?_
          refine ⟨(x + 1, l2 ++ [8 * o + x], v23), ?_, (((((((((((((((((((fr13.u rfl).u rfl).u rfl).u rfl).u rfl).u rfl).u rfl).u rfl).u rfl).u rfl).u rfl).u rfl).u rfl).u rfl).u rfl).u rfl).u rfl).u rfl).u rfl).u rfl, (Hp.conv (hH25.sub (.cons _ (List.Sublist.refl _))) (by first | rfl | simp)), rfl, (congrArg I (by first | rfl | omega)), ?_, ?_, ?_⟩
          · ((try dsimp only); omega)
          · omega
          · omega
          · (rw [h2]; first | (rw [List.append_assoc, rowL_yes x0 ‹_›]) | (rw [rowL_no x0 ‹_›]))
        · refine CW.skip ?_
          refine CW.region ?_
          refine RL.val rfl (run_move e7_13) ?_
          refine RL.val rfl (run_add rfl rfl (by omega)) ?_
          refine RL.val rfl (run_assign (v := I _) rfl) ?_
          refine RL.nil ?_
          refine ⟨(x + 1, l2, v5), ?_, (((((((((((fr13.u rfl).u rfl).u rfl).u rfl).u rfl).u rfl).u rfl).u rfl).u rfl).u rfl).u rfl).u rfl, (Hp.conv hH17 (by first | rfl | simp)), e5_13, (congrArg I (by first | rfl | omega)), ?_, ?_, ?_⟩
          · ((try dsimp only); omega)
          · omega
          · omega
          · (rw [h2]; first | (rw [List.append_assoc, rowL_yes x0 ‹_›]) | (rw [rowL_no x0 ‹_›]))
      · refine CW.exit (id := 2) rfl ?_
        refine CW.region ?_
        refine RL.val rfl (run_move e6_13) ?_
        refine RL.val rfl (run_add rfl rfl (by omega)) ?_
        refine RL.val rfl (run_assign (v := I _) rfl) ?_
        refine RL.nil ?_
        refine ⟨(o + 1, l2, v5), ?_, (((((((((((((fr10.u rfl).u rfl).u rfl).u rfl).u rfl).t fr13 rfl)).u rfl).u rfl).u rfl).u rfl).u rfl).u rfl).u rfl, (Hp.conv hH13 (by first | rfl | simp)), e5_13, (congrArg I (by first | rfl | omega)), ?_, ?_, ?_⟩
        · ((try dsimp only); omega)
        · omega
        · omega
        · (rw [h2]; exact closeL_next o0 (by omega))
    · refine CW.exit (id := 0) rfl ?_
      refine CW.seq ?_
      refine CW.region ?_
      refine RL.val rfl (run_move e5_10) ?_
      refine RL.callP rfl hH10 (c_clearanceref01_Of _ _  _ (hH10.sl (i := 0) rfl)) (run_call1 Tryd.call96 rfl) ?_
      intro w26 hH27
      refine RL.val rfl (run_assign (v := U _) rfl) ?_
      refine RL.nil ?_
      refine CW.ret ?_
      refine outP1 Tryd.results70 (congrArg U ?_) hH27.below
      first | exact (close_no (nt ‹_›)).symm | (rw [hl]; exact close_ref hr (by omega))

theorem c_clearanceref05_Rule (r : Rl) (o : Int) (s : BitVec 64) (w : World) : Calls Tryd.prog 79 #[.agg (relC r), I o, U s] w (Pure (U (ruleG r o s)) w) := by
  refine enter Tryd.func79 rfl Tryd.ntmps79 rfl ?_
  have hH := Hp.start w
  refine CW.seq ?_
  refine CW.region ?_
  refine RL.new rfl hH (f := fun b => (.pointer (some ⟨b, 0, none⟩))) (run_box (v := .agg _) rfl) ?_
  intro b3 w1 hH2
  refine RL.val rfl (run_assign (v := U 0#64) rfl) ?_
  refine RL.nil ?_
  refine CW.seq ?_
  refine CW.region ?_
  refine RL.val rfl (run_assign (v := .slice none 0 0) rfl) ?_
  have hH4 := hH2.nilRow 3 1
  refine RL.nil ?_
  refine CW.seq ?_
  refine CW.seq ?_
  refine CW.region ?_
  refine RL.val rfl (run_ldRel Tryd.underlying25 rfl rfl rfl (hH4.blk (i := 1) rfl)) ?_
  refine RL.callP rfl hH4 (c_clearanceref05_Right _  _) (run_call1 Tryd.call66 rfl) ?_
  intro w5 hH6
  refine RL.val rfl (run_not rfl) ?_
  refine RL.val rfl (run_move (v := B _) rfl) ?_
  refine RL.split (dj := 14) rfl (fun h9 => ?_) (fun h9 => ?_)
  · refine RL.gF rfl rfl (bR (c := true) h9) rfl ?_
    refine RL.gF rfl rfl (bR (c := true) h9) rfl ?_
    refine RL.val rfl (run_pickT (bR (c := true) h9) (v := B true) rfl) ?_
    refine RL.val rfl (run_move (v := B _) rfl) ?_
    refine RL.gF rfl rfl rfl rfl ?_
    refine RL.gF rfl rfl rfl rfl ?_
    refine RL.gF rfl rfl rfl rfl ?_
    refine RL.gF rfl rfl rfl rfl ?_
    refine RL.val rfl (run_pickT rfl (v := B true) rfl) ?_
    refine RL.nil ?_
    refine CW.condT rfl ?_
    refine CW.seq ?_
    refine CW.region ?_
    refine RL.val rfl (run_assign (v := U 0#64) rfl) ?_
    refine RL.nil ?_
    refine CW.ret ?_
    refine outP1 Tryd.results79 (congrArg U ?_) hH6.below
    first | exact (rule_no (own_no (.inl (nt ‹_›)))).symm | exact (rule_no (own_no (.inr (by omega)))).symm | (rw [hl, rule_ref ho (show x = r.n by omega), ruleG, if_pos ho])
  · refine RL.gT rfl (bR (c := false) h9) ?_
    refine RL.val rfl (run_move (v := I _) rfl) ?_
    refine RL.gT rfl (bR (c := false) h9) ?_
    refine RL.val rfl (run_lss rfl rfl) ?_
    refine RL.val rfl (run_pickF (bR (c := false) h9) (v := B _) rfl) ?_
    refine RL.val rfl (run_move (v := B _) rfl) ?_
    refine RL.splitP (dj := 18) rfl (fun h11 => ?_) (fun h11 => ?_)
    · refine RL.gF rfl rfl (bT h11) rfl ?_
      refine RL.gF rfl rfl (bT h11) rfl ?_
      refine RL.gF rfl rfl (bT h11) rfl ?_
      refine RL.gF rfl rfl (bT h11) rfl ?_
      refine RL.val rfl (run_pickT (bT h11) (v := B true) rfl) ?_
      refine RL.nil ?_
      refine CW.condT rfl ?_
      refine CW.seq ?_
      refine CW.region ?_
      refine RL.val rfl (run_assign (v := U 0#64) rfl) ?_
      refine RL.nil ?_
      refine CW.ret ?_
      refine outP1 Tryd.results79 (congrArg U ?_) hH6.below
      first | exact (rule_no (own_no (.inl (nt ‹_›)))).symm | exact (rule_no (own_no (.inr (by omega)))).symm | (rw [hl, rule_ref ho (show x = r.n by omega), ruleG, if_pos ho])
    · refine RL.gT rfl (bF h11) ?_
      refine RL.val rfl (run_move (v := I _) rfl) ?_
      refine RL.gT rfl (bF h11) ?_
      refine RL.val rfl (run_fieldAddr Tryd.underlying25 rfl (off := 0) rfl Tryd.sizeOf3 (by decide) rfl) ?_
      refine RL.gT rfl (bF h11) ?_
      refine RL.val rfl (run_ld Tryd.underlying3 rfl rfl (hH6.cell (i := 1) rfl (relC_N _))) ?_
      refine RL.gT rfl (bF h11) ?_
      refine RL.val rfl (run_geq rfl rfl) ?_
      refine RL.val rfl (run_pickF (bF h11) (v := B _) rfl) ?_
      refine RL.nil ?_
      refine CW.condP rfl (fun h13 => ?_) (fun h13 => ?_)
      · refine CW.seq ?_
        refine CW.region ?_
        refine RL.val rfl (run_assign (v := U 0#64) rfl) ?_
        refine RL.nil ?_
        refine CW.ret ?_
        refine outP1 Tryd.results79 (congrArg U ?_) hH6.below
        first | exact (rule_no (own_no (.inl (nt ‹_›)))).symm | exact (rule_no (own_no (.inr (by omega)))).symm | (rw [hl, rule_ref ho (show x = r.n by omega), ruleG, if_pos ho])
      · refine CW.skip ?_
        refine CW.seq ?_
        refine CW.seq ?_
        refine CW.region ?_
        refine RL.val rfl (run_assign (v := I 0) rfl) ?_
        refine RL.nil ?_
        refine CW.block ?_
        have hr : rightG r = true := nf ‹_›
        have hs := right_spec hr
        have ho : ownsG r o = true := own_yes hr (by omega)
        refine CW.loop (G := (Int) × (List Int) × (Value)) (fun (⟨x, l, v7⟩ : (Int) × (List Int) × (Value)) s' w' => (Fr [7, 8, 9, 10, 24, 25, 26, 27, 28, 29, 30, 31, 32, 33, 34, 35, 36, 37, 38, 39, 40, 41, 42, 43, 44, 45, 46, 47, 48, 49, 50, 51, 52, 53] _ s') ∧ (Hp w w' (.row v7 3 1 (l.length) (l.map I) :: _)) ∧ (s' 7 = v7) ∧ (s' 8 = I x) ∧ (0 ≤ x) ∧ (x ≤ r.n) ∧ (l = ruleL r s o x)) (fun (⟨x, l, v7⟩ : (Int) × (List Int) × (Value)) => (r.n - x).toNat) ((0, [], (.slice none 0 0 : Value))) ⟨Fr.refl _ _, hH6, rfl, rfl, (by omega), (by omega), rfl⟩ ?_
        rintro ⟨x, l, v7⟩ sg14 w14 ⟨fr14, hH14, e7_14, e8_14, x0, x1, hl⟩
        have e1_14 : sg14 1 = I _ := (fr14 1 rfl).trans rfl
        have e2_14 : sg14 2 = U _ := (fr14 2 rfl).trans rfl
        have e3_14 : sg14 3 = .pointer (some ⟨_, _, none⟩) := (fr14 3 rfl).trans rfl
        have e6_14 : sg14 6 = U _ := (fr14 6 rfl).trans rfl
        refine CW.seq ?_
        refine CW.seq ?_
        refine CW.region ?_
        refine RL.val rfl (run_move e8_14) ?_
        refine RL.val rfl (run_fieldAddr Tryd.underlying25 rfl (off := 0) rfl Tryd.sizeOf3 (by decide) e3_14) ?_
        refine RL.val rfl (run_ld Tryd.underlying3 rfl rfl (hH14.cell (i := 1) rfl (relC_N _))) ?_
        refine RL.val rfl (run_lss rfl rfl) ?_
        refine RL.nil ?_
        refine CW.condP rfl (fun h16 => ?_) (fun h16 => ?_)
        · refine CW.skip ?_
          refine CW.seq ?_
          refine CW.block ?_
          refine CW.seq ?_
          refine CW.region ?_
          refine RL.val rfl (run_assign (v := B false) rfl) ?_
          refine RL.nil ?_
          refine CW.seq ?_
          refine CW.seq ?_
          refine CW.region ?_
          refine RL.val rfl (run_assign (v := I 0) rfl) ?_
          refine RL.nil ?_
          refine CW.block ?_
          refine CW.loop (G := (Int)) (fun (y : Int) s' w' => (Fr [9, 10, 30, 31, 32, 33, 34, 35, 36, 37, 38, 39, 40, 41, 42, 43, 44] _ s') ∧ (Hp w w' _) ∧ (s' 9 = B (mayTo r s x y)) ∧ (s' 10 = I y) ∧ (0 ≤ y) ∧ (y ≤ r.n)) (fun (y : Int) => (r.n - y).toNat) (0) ⟨Fr.refl _ _, hH14, (congrArg B (by rfl)), rfl, (by omega), (by omega)⟩ ?_
          rintro y sg17 w17 ⟨fr17, hH17, e9_17, e10_17, y0, y1⟩
          have e1_17 := (fr17 1 rfl).trans e1_14
          have e2_17 := (fr17 2 rfl).trans e2_14
          have e3_17 := (fr17 3 rfl).trans e3_14
          have e6_17 := (fr17 6 rfl).trans e6_14
          have e7_17 := (fr17 7 rfl).trans e7_14
          have e8_17 := (fr17 8 rfl).trans e8_14
          have e24_17 : sg17 24 = I _ := (fr17 24 rfl).trans rfl
          have e25_17 : sg17 25 = .pointer (some ⟨_, _, none⟩) := (fr17 25 rfl).trans rfl
          have e26_17 : sg17 26 = I _ := (fr17 26 rfl).trans rfl
          have e27_17 : sg17 27 = B _ := (fr17 27 rfl).trans rfl
          refine CW.seq ?_
          refine CW.seq ?_
          refine CW.region ?_
          refine RL.val rfl (run_move e10_17) ?_
          refine RL.val rfl (run_fieldAddr Tryd.underlying25 rfl (off := 0) rfl Tryd.sizeOf3 (by decide) e3_17) ?_
          refine RL.val rfl (run_ld Tryd.underlying3 rfl rfl (hH17.cell (i := 1) rfl (relC_N _))) ?_
          refine RL.val rfl (run_lss rfl rfl) ?_
          refine RL.nil ?_
          refine CW.condP rfl (fun h20 => ?_) (fun h20 => ?_)
          · refine CW.skip ?_
            refine CW.seq ?_
            refine CW.block ?_
            refine CW.seq ?_
            refine CW.region ?_
            refine RL.val rfl (run_move e2_17) ?_
            refine RL.val rfl (run_move e10_17) ?_
            refine RL.callP rfl hH17 (c_clearanceref01_Has _ _  _) (run_call2 Tryd.call31 rfl rfl) ?_
            intro w21 hH22
            refine RL.val rfl (run_move (v := B _) rfl) ?_
            refine RL.split (dj := 39) rfl (fun h24 => ?_) (fun h24 => ?_)
            · refine RL.gT rfl (bR (c := true) h24) ?_
              refine RL.val rfl (run_ldRel Tryd.underlying25 rfl rfl e3_17 (hH22.blk (i := 1) rfl)) ?_
              refine RL.gT rfl (bR (c := true) h24) ?_
              refine RL.val rfl (run_move e10_17) ?_
              refine RL.gT rfl (bR (c := true) h24) ?_
              refine RL.val rfl (run_move e8_17) ?_
              refine RL.gT rfl (bR (c := true) h24) ?_
              refine RL.callP rfl hH22 (c_clearanceref03_Has _ _ _  _) (run_call3 Tryd.call26 rfl rfl rfl) ?_
              intro w25 hH26
              refine RL.val rfl (run_pickT (bR (c := true) h24) (v := B _) rfl) ?_
              refine RL.nil ?_
              refine CW.cond rfl (fun h28 => ?_) (fun h28 => ?_)
              · refine CW.region ?_
                refine RL.val rfl (run_assign (v := B true) rfl) ?_
                refine RL.nil ?_
                refine CW.region ?_
                refine RL.val rfl (run_move e10_17) ?_
                refine RL.val rfl (run_add rfl rfl (by omega)) ?_
                refine RL.val rfl (run_assign (v := I _) rfl) ?_
                refine RL.nil ?_
                refine ⟨y + 1, ?_, ((((((((((((((((fr17.u rfl).u rfl).u rfl).u rfl).u rfl).u rfl).u rfl).u rfl).u rfl).u rfl).u rfl).u rfl).u rfl).u rfl).u rfl).u rfl).u rfl, hH26, (congrArg B (by rw [may_next y0]; simp [*])), (congrArg I (by first | rfl | omega)), ?_, ?_⟩
                · ((try dsimp only); omega)
                · omega
                · omega
              · refine CW.skip ?_
                refine CW.region ?_
                refine RL.val rfl (run_move e10_17) ?_
                refine RL.val rfl (run_add rfl rfl (by omega)) ?_
                refine RL.val rfl (run_assign (v := I _) rfl) ?_
                refine RL.nil ?_
                refine ⟨y + 1, ?_, (((((((((((((((fr17.u rfl).u rfl).u rfl).u rfl).u rfl).u rfl).u rfl).u rfl).u rfl).u rfl).u rfl).u rfl).u rfl).u rfl).u rfl).u rfl, hH26, (Eq.trans e9_17 (congrArg B (by rw [may_next y0]; simp [*]))), (congrArg I (by first | rfl | omega)), ?_, ?_⟩
                · ((try dsimp only); omega)
                · omega
                · omega
            · refine RL.gF rfl rfl (bR (c := false) h24) rfl ?_
              refine RL.gF rfl rfl (bR (c := false) h24) rfl ?_
              refine RL.gF rfl rfl (bR (c := false) h24) rfl ?_
              refine RL.gF rfl rfl (bR (c := false) h24) rfl ?_
              refine RL.val rfl (run_pickF (bR (c := false) h24) (v := B false) rfl) ?_
              refine RL.nil ?_
              refine CW.condF rfl ?_
              refine CW.skip ?_
              refine CW.region ?_
              refine RL.val rfl (run_move e10_17) ?_
              refine RL.val rfl (run_add rfl rfl (by omega)) ?_
              refine RL.val rfl (run_assign (v := I _) rfl) ?_
              refine RL.nil ?_
              refine ⟨y + 1, ?_, (((((((((((((((fr17.u rfl).u rfl).u rfl).u rfl).u rfl).u rfl).u rfl).u rfl).u rfl).u rfl).u rfl).u rfl).u rfl).u rfl).u rfl).u rfl, hH22, (Eq.trans e9_17 (congrArg B (by rw [may_next y0]; simp [*]))), (congrArg I (by first | rfl | omega)), ?_, ?_⟩
              · ((try dsimp only); omega)
              · omega
              · omega
          · refine CW.exit (id := 2) rfl ?_
            refine CW.seq ?_
            refine CW.region ?_
            refine RL.val rfl (run_move e9_17) ?_
            refine RL.val rfl (run_not rfl) ?_
            refine RL.nil ?_
            refine CW.cond rfl (fun h30 => ?_) (fun h30 => ?_)
            · refine CW.region ?_
              refine RL.val rfl (run_move e7_17) ?_
              refine RL.val rfl (run_move e1_17) ?_
              refine RL.val rfl (run_mul rfl rfl (by omega)) ?_
              refine RL.val rfl (run_move e8_17) ?_
              refine RL.val rfl (run_add rfl rfl (by omega)) ?_
              refine RL.new rfl hH17 (f := fun b => (.slice (some ⟨b, 0, none⟩) 1 1)) (run_mkL Tryd.underlying36 rfl rfl (sz := 1) (vs := [I _]) rfl rfl (by decide) (by decide) rfl rfl) ?_
              intro b33 w31 hH32
              (try simp only [List.flatMap_cons, List.flatMap_nil, clI, clB, clS, clP, clL, clA, List.append_nil, List.cons_append, List.nil_append] at hH32)
              refine RL.app rfl hH32 (i := 1) rfl (hH32.slBlk (i := 0) (n := 1) (sz := 1) rfl rfl (by decide)) rfl rfl Tryd.underlying36 rfl rfl (size := 1) (bytes := 8) rfl rfl rfl (by decide) (by simp [Value.oneCell']) (by rw [hl]; have := @ruleL_len r s o x; omega) (by rw [hl]; have := @ruleL_len r s o x; simp only [maxLen]; omega) ?_
              intro v34 w35 hH36
              simp only [List.set_cons_zero, List.set_cons_succ] at hH36
              refine RL.val rfl (run_assign (by conv => lhs; whnf)) ?_
              refine RL.nil ?_
              refine CW.region ?_
              refine RL.val rfl (run_move e8_17) ?_
              refine RL.val rfl (run_add rfl rfl (by omega)) ?_
              refine RL.val rfl (run_assign (v := I _) rfl) ?_
              refine RL.nil ?_
              refine ⟨(x + 1, l ++ [8 * o + x], v34), ?_, ((((((((((((((((((((((((fr14.u rfl).u rfl).u rfl).u rfl).u rfl).u rfl).t fr17 rfl)).u rfl).u rfl).u rfl).u rfl).u rfl).u rfl).u rfl).u rfl).u rfl).u rfl).u rfl).u rfl).u rfl).u rfl).u rfl).u rfl).u rfl, (Hp.conv (hH36.sub (.cons _ (List.Sublist.refl _))) (by first | rfl | simp)), rfl, (congrArg I (by first | rfl | omega)), ?_, ?_, ?_⟩
              · ((try dsimp only); omega)
              · omega
              · omega
              · (rw [hl]; first | exact ruleL_yes x0 (by rw [← may_up hr (show y = r.n by omega)]; exact nt ‹_›) | exact ruleL_no x0 (by rw [← may_up hr (show y = r.n by omega)]; exact nf ‹_›))
            · refine CW.skip ?_
              refine CW.region ?_
              refine RL.val rfl (run_move e8_17) ?_
              refine RL.val rfl (run_add rfl rfl (by omega)) ?_
              refine RL.val rfl (run_assign (v := I _) rfl) ?_
              refine RL.nil ?_
              refine ⟨(x + 1, l, v7), ?_, ((((((((((((((((fr14.u rfl).u rfl).u rfl).u rfl).u rfl).u rfl).t fr17 rfl)).u rfl).u rfl).u rfl).u rfl).u rfl).u rfl).u rfl).u rfl).u rfl, (Hp.conv hH17 (by first | rfl | simp)), e7_17, (congrArg I (by first | rfl | omega)), ?_, ?_, ?_⟩
              · ((try dsimp only); omega)
              · omega
              · omega
              · (rw [hl]; first | exact ruleL_yes x0 (by rw [← may_up hr (show y = r.n by omega)]; exact nt ‹_›) | exact ruleL_no x0 (by rw [← may_up hr (show y = r.n by omega)]; exact nf ‹_›))
        · refine CW.exit (id := 0) rfl ?_
          refine CW.seq ?_
          refine CW.regionD (by kernel_rfl) hH14 ?_
          intro w37 hH38
          refine AN.take 0 rfl rfl (by kernel_rfl) (by kernel_rfl) (by kernel_rfl) (hH38.sub (List.Sublist.refl _)) (fun w hS => run_ldRel Tryd.underlying25 rfl rfl e3_14 (hS.blk (i := 1) rfl)) ?_
          refine AN.take 1 rfl rfl (by kernel_rfl) (by kernel_rfl) (by kernel_rfl) (hH38.sub (List.Sublist.refl _)) (fun w hS => run_move e7_14) ?_
          refine AN.one 2 (by kernel_rfl) ?_
          refine AO.callP rfl gnone rfl hH38 (List.Sublist.refl _) (c_clearanceref01_Of _ _  _ (hH38.sl (i := 0) rfl)) (run_call1 Tryd.call96 rfl) ?_
          intro w39 hH40
          refine AN.one 3 (by kernel_rfl) ?_
          refine AO.callP rfl gnone rfl hH40 (List.Sublist.refl _) (c_clearanceref05_Close _ _  _) (run_call2 Tryd.call70 rfl rfl) ?_
          intro w41 hH42
          refine AN.take 4 rfl rfl (by kernel_rfl) (by kernel_rfl) (by kernel_rfl) (hH42.sub (List.Sublist.refl _)) (fun w hS => run_assign (v := U _) rfl) ?_
          refine AN.done (by kernel_rfl) ?_
          refine CW.ret ?_
          refine outP1 Tryd.results79 (congrArg U ?_) hH42.below
          first | exact (rule_no (own_no (.inl (nt ‹_›)))).symm | exact (rule_no (own_no (.inr (by omega)))).symm | (rw [hl, rule_ref ho (show x = r.n by omega), ruleG, if_pos ho])

theorem c_clearanceref05_Readers (r : Rl) (s : BitVec 64) (o : Int) (w : World) : Calls Tryd.prog 81 #[.agg (relC r), U s, I o] w (Pure (U (readersG r s o)) w) := by
  refine enter Tryd.func81 rfl Tryd.ntmps81 rfl ?_
  have hH := Hp.start w
  refine CW.seq ?_
  refine CW.region ?_
  refine RL.new rfl hH (f := fun b => (.pointer (some ⟨b, 0, none⟩))) (run_box (v := .agg _) rfl) ?_
  intro b3 w1 hH2
  refine RL.val rfl (run_assign (v := U 0#64) rfl) ?_
  refine RL.nil ?_
  refine CW.seq ?_
  refine CW.region ?_
  refine RL.val rfl (run_assign (v := .slice none 0 0) rfl) ?_
  have hH4 := hH2.nilRow 3 1
  refine RL.nil ?_
  refine CW.seq ?_
  refine CW.seq ?_
  refine CW.region ?_
  refine RL.val rfl (run_ldRel Tryd.underlying25 rfl rfl rfl (hH4.blk (i := 1) rfl)) ?_
  refine RL.callP rfl hH4 (c_clearanceref05_Right _  _) (run_call1 Tryd.call66 rfl) ?_
  intro w5 hH6
  refine RL.val rfl (run_not rfl) ?_
  refine RL.val rfl (run_move (v := B _) rfl) ?_
  refine RL.split (dj := 12) rfl (fun h9 => ?_) (fun h9 => ?_)
  · refine RL.gF rfl rfl (bR (c := true) h9) rfl ?_
    refine RL.gF rfl rfl (bR (c := true) h9) rfl ?_
    refine RL.val rfl (run_pickT (bR (c := true) h9) (v := B true) rfl) ?_
    refine RL.val rfl (run_move (v := B _) rfl) ?_
    refine RL.gF rfl rfl rfl rfl ?_
    refine RL.gF rfl rfl rfl rfl ?_
    refine RL.gF rfl rfl rfl rfl ?_
    refine RL.gF rfl rfl rfl rfl ?_
    refine RL.val rfl (run_pickT rfl (v := B true) rfl) ?_
    refine RL.nil ?_
    refine CW.condT rfl ?_
    refine CW.seq ?_
    refine CW.region ?_
    refine RL.val rfl (run_assign (v := U 0#64) rfl) ?_
    refine RL.nil ?_
    refine CW.ret ?_
    refine outP1 Tryd.results81 (congrArg U ?_) hH6.below
    first | exact (read_no (own_no (.inl (nt ‹_›)))).symm | exact (read_no (own_no (.inr (by omega)))).symm | (rw [hl]; exact read_ref ho (by omega))
  · refine RL.gT rfl (bR (c := false) h9) ?_
    refine RL.val rfl (run_move (v := I _) rfl) ?_
    refine RL.gT rfl (bR (c := false) h9) ?_
    refine RL.val rfl (run_lss rfl rfl) ?_
    refine RL.val rfl (run_pickF (bR (c := false) h9) (v := B _) rfl) ?_
    refine RL.val rfl (run_move (v := B _) rfl) ?_
    refine RL.splitP (dj := 16) rfl (fun h11 => ?_) (fun h11 => ?_)
    · refine RL.gF rfl rfl (bT h11) rfl ?_
      refine RL.gF rfl rfl (bT h11) rfl ?_
      refine RL.gF rfl rfl (bT h11) rfl ?_
      refine RL.gF rfl rfl (bT h11) rfl ?_
      refine RL.val rfl (run_pickT (bT h11) (v := B true) rfl) ?_
      refine RL.nil ?_
      refine CW.condT rfl ?_
      refine CW.seq ?_
      refine CW.region ?_
      refine RL.val rfl (run_assign (v := U 0#64) rfl) ?_
      refine RL.nil ?_
      refine CW.ret ?_
      refine outP1 Tryd.results81 (congrArg U ?_) hH6.below
      first | exact (read_no (own_no (.inl (nt ‹_›)))).symm | exact (read_no (own_no (.inr (by omega)))).symm | (rw [hl]; exact read_ref ho (by omega))
    · refine RL.gT rfl (bF h11) ?_
      refine RL.val rfl (run_move (v := I _) rfl) ?_
      refine RL.gT rfl (bF h11) ?_
      refine RL.val rfl (run_fieldAddr Tryd.underlying25 rfl (off := 0) rfl Tryd.sizeOf3 (by decide) rfl) ?_
      refine RL.gT rfl (bF h11) ?_
      refine RL.val rfl (run_ld Tryd.underlying3 rfl rfl (hH6.cell (i := 1) rfl (relC_N _))) ?_
      refine RL.gT rfl (bF h11) ?_
      refine RL.val rfl (run_geq rfl rfl) ?_
      refine RL.val rfl (run_pickF (bF h11) (v := B _) rfl) ?_
      refine RL.nil ?_
      refine CW.condP rfl (fun h13 => ?_) (fun h13 => ?_)
      · refine CW.seq ?_
        refine CW.region ?_
        refine RL.val rfl (run_assign (v := U 0#64) rfl) ?_
        refine RL.nil ?_
        refine CW.ret ?_
        refine outP1 Tryd.results81 (congrArg U ?_) hH6.below
        first | exact (read_no (own_no (.inl (nt ‹_›)))).symm | exact (read_no (own_no (.inr (by omega)))).symm | (rw [hl]; exact read_ref ho (by omega))
      · refine CW.skip ?_
        refine CW.seq ?_
        refine CW.seq ?_
        refine CW.region ?_
        refine RL.val rfl (run_assign (v := I 0) rfl) ?_
        refine RL.nil ?_
        refine CW.block ?_
        have hr : rightG r = true := nf ‹_›
        have hs := right_spec hr
        have ho : ownsG r o = true := own_yes hr (by omega)
        have hn8 := hs.1
        refine CW.loop (G := (Int) × (List Int) × (Value)) (fun (⟨x, l, v7⟩ : (Int) × (List Int) × (Value)) s' w' => (Fr [7, 8, 22, 23, 24, 25, 26, 27, 28, 29, 30, 31, 32, 33, 34, 35, 36, 37] _ s') ∧ (Hp w w' (.row v7 3 1 (l.length) (l.map I) :: _)) ∧ (s' 7 = v7) ∧ (s' 8 = I x) ∧ (0 ≤ x) ∧ (x ≤ r.n) ∧ (l = readL r s o x)) (fun (⟨x, l, v7⟩ : (Int) × (List Int) × (Value)) => (r.n - x).toNat) ((0, [], (.slice none 0 0 : Value))) ⟨Fr.refl _ _, hH6, rfl, rfl, (by omega), (by omega), rfl⟩ ?_
        rintro ⟨x, l, v7⟩ sg14 w14 ⟨fr14, hH14, e7_14, e8_14, x0, x1, hl⟩
        have e1_14 : sg14 1 = U _ := (fr14 1 rfl).trans rfl
        have e2_14 : sg14 2 = I _ := (fr14 2 rfl).trans rfl
        have e3_14 : sg14 3 = .pointer (some ⟨_, _, none⟩) := (fr14 3 rfl).trans rfl
        have e6_14 : sg14 6 = U _ := (fr14 6 rfl).trans rfl
        refine CW.seq ?_
        refine CW.seq ?_
        refine CW.region ?_
        refine RL.val rfl (run_move e8_14) ?_
        refine RL.val rfl (run_fieldAddr Tryd.underlying25 rfl (off := 0) rfl Tryd.sizeOf3 (by decide) e3_14) ?_
        refine RL.val rfl (run_ld Tryd.underlying3 rfl rfl (hH14.cell (i := 1) rfl (relC_N _))) ?_
        refine RL.val rfl (run_lss rfl rfl) ?_
        refine RL.nil ?_
        refine CW.condP rfl (fun h16 => ?_) (fun h16 => ?_)
        · refine CW.skip ?_
          refine CW.seq ?_
          refine CW.block ?_
          refine CW.seq ?_
          refine CW.region ?_
          refine RL.val rfl (run_ldRel Tryd.underlying25 rfl rfl e3_14 (hH14.blk (i := 1) rfl)) ?_
          refine RL.val rfl (run_move e1_14) ?_
          refine RL.val rfl (run_move e2_14) ?_
          refine RL.val rfl (run_move e8_14) ?_
          refine RL.callP rfl hH14 (c_clearanceref05_Out _ _ _ _ (by first | assumption | omega) _) (run_call4 Tryd.call110 rfl rfl rfl rfl) ?_
          intro w17 hH18
          refine RL.val rfl (run_not rfl) ?_
          refine RL.nil ?_
          refine CW.cond rfl (fun h21 => ?_) (fun h21 => ?_)
          · refine CW.region ?_
            refine RL.val rfl (run_move e7_14) ?_
            refine RL.val rfl (run_move e8_14) ?_
            refine RL.new rfl hH18 (f := fun b => (.slice (some ⟨b, 0, none⟩) 1 1)) (run_mkL Tryd.underlying36 rfl rfl (sz := 1) (vs := [I _]) rfl rfl (by decide) (by decide) rfl rfl) ?_
            intro b24 w22 hH23
            (try simp only [List.flatMap_cons, List.flatMap_nil, clI, clB, clS, clP, clL, clA, List.append_nil, List.cons_append, List.nil_append] at hH23)
            refine RL.app rfl hH23 (i := 1) rfl (hH23.slBlk (i := 0) (n := 1) (sz := 1) rfl rfl (by decide)) rfl rfl Tryd.underlying36 rfl rfl (size := 1) (bytes := 8) rfl rfl rfl (by decide) (by simp [Value.oneCell']) (by rw [hl]; have := @readL_len r s o x; omega) (by rw [hl]; have := @readL_len r s o x; simp only [maxLen]; omega) ?_
            intro v25 w26 hH27
            simp only [List.set_cons_zero, List.set_cons_succ] at hH27
            refine RL.val rfl (run_assign (by conv => lhs; whnf)) ?_
            refine RL.nil ?_
            refine CW.region ?_
            refine RL.val rfl (run_move e8_14) ?_
            refine RL.val rfl (run_add rfl rfl (by omega)) ?_
            refine RL.val rfl (run_assign (v := I _) rfl) ?_
            refine RL.nil ?_
            refine ⟨(x + 1, l ++ [x], v25), ?_, (((((((((((((((((fr14.u rfl).u rfl).u rfl).u rfl).u rfl).u rfl).u rfl).u rfl).u rfl).u rfl).u rfl).u rfl).u rfl).u rfl).u rfl).u rfl).u rfl).u rfl, (Hp.conv (hH27.sub (.cons _ (List.Sublist.refl _))) (by first | rfl | simp)), rfl, (congrArg I (by first | rfl | omega)), ?_, ?_, ?_⟩
            · ((try dsimp only); omega)
            · omega
            · omega
            · (rw [hl]; first | exact readL_yes x0 (nt ‹_›) | exact readL_no x0 (nf ‹_›))
          · refine CW.skip ?_
            refine CW.region ?_
            refine RL.val rfl (run_move e8_14) ?_
            refine RL.val rfl (run_add rfl rfl (by omega)) ?_
            refine RL.val rfl (run_assign (v := I _) rfl) ?_
            refine RL.nil ?_
            refine ⟨(x + 1, l, v7), ?_, ((((((((((((fr14.u rfl).u rfl).u rfl).u rfl).u rfl).u rfl).u rfl).u rfl).u rfl).u rfl).u rfl).u rfl).u rfl, (Hp.conv hH18 (by first | rfl | simp)), e7_14, (congrArg I (by first | rfl | omega)), ?_, ?_, ?_⟩
            · ((try dsimp only); omega)
            · omega
            · omega
            · (rw [hl]; first | exact readL_yes x0 (nt ‹_›) | exact readL_no x0 (nf ‹_›))
        · refine CW.exit (id := 0) rfl ?_
          refine CW.seq ?_
          refine CW.region ?_
          refine RL.val rfl (run_move e7_14) ?_
          refine RL.callP rfl hH14 (c_clearanceref01_Of _ _  _ (hH14.sl (i := 0) rfl)) (run_call1 Tryd.call96 rfl) ?_
          intro w28 hH29
          refine RL.val rfl (run_assign (v := U _) rfl) ?_
          refine RL.nil ?_
          refine CW.ret ?_
          refine outP1 Tryd.results81 (congrArg U ?_) hH29.below
          first | exact (read_no (own_no (.inl (nt ‹_›)))).symm | exact (read_no (own_no (.inr (by omega)))).symm | (rw [hl]; exact read_ref ho (by omega))

theorem c_clearanceref05_Owners (r : Rl) (s : BitVec 64) (w : World) : Calls Tryd.prog 83 #[.agg (relC r), U s] w (Pure (U (ownersG r s)) w) := by
  refine enter Tryd.func83 rfl Tryd.ntmps83 rfl ?_
  have hH := Hp.start w
  refine CW.seq ?_
  refine CW.region ?_
  refine RL.new rfl hH (f := fun b => (.pointer (some ⟨b, 0, none⟩))) (run_box (v := .agg _) rfl) ?_
  intro b3 w1 hH2
  refine RL.val rfl (run_assign (v := U 0#64) rfl) ?_
  refine RL.nil ?_
  refine CW.seq ?_
  refine CW.region ?_
  refine RL.val rfl (run_assign (v := .slice none 0 0) rfl) ?_
  have hH4 := hH2.nilRow 3 1
  refine RL.nil ?_
  refine CW.seq ?_
  refine CW.seq ?_
  refine CW.region ?_
  refine RL.val rfl (run_ldRel Tryd.underlying25 rfl rfl rfl (hH4.blk (i := 1) rfl)) ?_
  refine RL.callP rfl hH4 (c_clearanceref05_Right _  _) (run_call1 Tryd.call66 rfl) ?_
  intro w5 hH6
  refine RL.val rfl (run_not rfl) ?_
  refine RL.nil ?_
  refine CW.cond rfl (fun h9 => ?_) (fun h9 => ?_)
  · refine CW.seq ?_
    refine CW.region ?_
    refine RL.val rfl (run_assign (v := U 0#64) rfl) ?_
    refine RL.nil ?_
    refine CW.ret ?_
    refine outP1 Tryd.results83 (congrArg U ?_) hH6.below
    first | exact (owner_no (nt ‹_›)).symm | (rw [hl]; exact owner_yes hr (by omega))
  · refine CW.skip ?_
    refine CW.seq ?_
    refine CW.seq ?_
    refine CW.region ?_
    refine RL.val rfl (run_assign (v := I 0) rfl) ?_
    refine RL.nil ?_
    refine CW.block ?_
    have hr : rightG r = true := nf ‹_›
    have hs := right_spec hr
    refine CW.loop (G := (Int) × (List Int) × (Value)) (fun (⟨o, l, v5⟩ : (Int) × (List Int) × (Value)) s' w' => (Fr [5, 6, 10, 11, 12, 13, 14, 15, 16, 17, 18, 19, 20, 21, 22, 23, 24, 25, 26, 27] _ s') ∧ (Hp w w' (.row v5 3 1 (l.length) (l.map I) :: _)) ∧ (s' 5 = v5) ∧ (s' 6 = I o) ∧ (0 ≤ o) ∧ (o ≤ r.n) ∧ (l = ownL r s o)) (fun (⟨o, l, v5⟩ : (Int) × (List Int) × (Value)) => (r.n - o).toNat) ((0, [], (.slice none 0 0 : Value))) ⟨Fr.refl _ _, hH6, rfl, rfl, (by omega), (by omega), rfl⟩ ?_
    rintro ⟨o, l, v5⟩ sg10 w10 ⟨fr10, hH10, e5_10, e6_10, o0, o1, hl⟩
    have e1_10 : sg10 1 = U _ := (fr10 1 rfl).trans rfl
    have e2_10 : sg10 2 = .pointer (some ⟨_, _, none⟩) := (fr10 2 rfl).trans rfl
    have e4_10 : sg10 4 = U _ := (fr10 4 rfl).trans rfl
    refine CW.seq ?_
    refine CW.seq ?_
    refine CW.region ?_
    refine RL.val rfl (run_move e6_10) ?_
    refine RL.val rfl (run_fieldAddr Tryd.underlying25 rfl (off := 0) rfl Tryd.sizeOf3 (by decide) e2_10) ?_
    refine RL.val rfl (run_ld Tryd.underlying3 rfl rfl (hH10.cell (i := 1) rfl (relC_N _))) ?_
    refine RL.val rfl (run_lss rfl rfl) ?_
    refine RL.nil ?_
    refine CW.condP rfl (fun h12 => ?_) (fun h12 => ?_)
    · refine CW.skip ?_
      refine CW.seq ?_
      refine CW.block ?_
      refine CW.seq ?_
      refine CW.regionD (by kernel_rfl) hH10 ?_
      intro w13 hH14
      refine AN.take 0 rfl rfl (by kernel_rfl) (by kernel_rfl) (by kernel_rfl) (hH14.sub (List.Sublist.refl _)) (fun w hS => run_ldRel Tryd.underlying25 rfl rfl e2_10 (hS.blk (i := 1) rfl)) ?_
      refine AN.take 1 rfl rfl (by kernel_rfl) (by kernel_rfl) (by kernel_rfl) (hH14.sub (List.Sublist.refl _)) (fun w hS => run_move e1_10) ?_
      refine AN.take 2 rfl rfl (by kernel_rfl) (by kernel_rfl) (by kernel_rfl) (hH14.sub (List.Sublist.refl _)) (fun w hS => run_move e6_10) ?_
      refine AN.take 4 rfl rfl (by kernel_rfl) (by kernel_rfl) (by kernel_rfl) (hH14.sub (List.Sublist.refl _)) (fun w hS => run_fieldAddr Tryd.underlying25 rfl (off := 0) rfl Tryd.sizeOf3 (by decide) e2_10) ?_
      refine AN.take 5 rfl rfl (by kernel_rfl) (by kernel_rfl) (by kernel_rfl) (hH14.sub (List.Sublist.refl _)) (fun w hS => run_ld Tryd.underlying3 rfl rfl (hS.cell (i := 1) rfl (relC_N _))) ?_
      refine AN.one 3 (by kernel_rfl) ?_
      refine AO.callP rfl gnone rfl hH14 (List.Sublist.refl _) (c_clearanceref05_Readers _ _ _  _) (run_call3 Tryd.call81 rfl rfl rfl) ?_
      intro w15 hH16
      refine AN.one 6 (by kernel_rfl) ?_
      refine AO.callP rfl gnone rfl hH16 (List.Sublist.refl _) (c_clearanceref01_Below _  _) (run_call1 Tryd.call111 rfl) ?_
      intro w17 hH18
      refine AN.take 7 rfl rfl (by kernel_rfl) (by kernel_rfl) (by kernel_rfl) (hH18.sub (List.Sublist.refl _)) (fun w hS => run_neqU rfl rfl) ?_
      refine AN.done (by kernel_rfl) ?_
      refine CW.condP rfl (fun h20 => ?_) (fun h20 => ?_)
      · refine CW.region ?_
        refine RL.val rfl (run_move e5_10) ?_
        refine RL.val rfl (run_move e6_10) ?_
        refine RL.new rfl hH18 (f := fun b => (.slice (some ⟨b, 0, none⟩) 1 1)) (run_mkL Tryd.underlying36 rfl rfl (sz := 1) (vs := [I _]) rfl rfl (by decide) (by decide) rfl rfl) ?_
        intro b23 w21 hH22
        (try simp only [List.flatMap_cons, List.flatMap_nil, clI, clB, clS, clP, clL, clA, List.append_nil, List.cons_append, List.nil_append] at hH22)
        refine RL.app rfl hH22 (i := 1) rfl (hH22.slBlk (i := 0) (n := 1) (sz := 1) rfl rfl (by decide)) rfl rfl Tryd.underlying36 rfl rfl (size := 1) (bytes := 8) rfl rfl rfl (by decide) (by simp [Value.oneCell']) (by rw [hl]; have := @ownL_len r s o; omega) (by rw [hl]; have := @ownL_len r s o; simp only [maxLen]; omega) ?_
        intro v24 w25 hH26
        simp only [List.set_cons_zero, List.set_cons_succ] at hH26
        refine RL.val rfl (run_assign (by conv => lhs; whnf)) ?_
        refine RL.nil ?_
        refine CW.region ?_
        refine RL.val rfl (run_move e6_10) ?_
        refine RL.val rfl (run_add rfl rfl (by omega)) ?_
        refine RL.val rfl (run_assign (v := I _) rfl) ?_
        refine RL.nil ?_
        refine ⟨(o + 1, l ++ [o], v24), ?_, (((((((((((((((((((fr10.u rfl).u rfl).u rfl).u rfl).u rfl).u rfl).u rfl).u rfl).u rfl).u rfl).u rfl).u rfl).u rfl).u rfl).u rfl).u rfl).u rfl).u rfl).u rfl).u rfl, (Hp.conv (hH26.sub (.cons _ (List.Sublist.refl _))) (by first | rfl | simp)), rfl, (congrArg I (by first | rfl | omega)), ?_, ?_, ?_⟩
        · ((try dsimp only); omega)
        · omega
        · omega
        · (rw [hl]; first | exact ownL_yes o0 ((read_below hr ⟨o0, ‹_›⟩).1 ‹_›) | exact ownL_no o0 (fun h => ‹¬ readersG r s o ≠ below r.n› ((read_below hr ⟨o0, ‹_›⟩).2 h)))
      · refine CW.skip ?_
        refine CW.region ?_
        refine RL.val rfl (run_move e6_10) ?_
        refine RL.val rfl (run_add rfl rfl (by omega)) ?_
        refine RL.val rfl (run_assign (v := I _) rfl) ?_
        refine RL.nil ?_
        refine ⟨(o + 1, l, v5), ?_, ((((((((((((((fr10.u rfl).u rfl).u rfl).u rfl).u rfl).u rfl).u rfl).u rfl).u rfl).u rfl).u rfl).u rfl).u rfl).u rfl).u rfl, (Hp.conv hH18 (by first | rfl | simp)), e5_10, (congrArg I (by first | rfl | omega)), ?_, ?_, ?_⟩
        · ((try dsimp only); omega)
        · omega
        · omega
        · (rw [hl]; first | exact ownL_yes o0 ((read_below hr ⟨o0, ‹_›⟩).1 ‹_›) | exact ownL_no o0 (fun h => ‹¬ readersG r s o ≠ below r.n› ((read_below hr ⟨o0, ‹_›⟩).2 h)))
    · refine CW.exit (id := 0) rfl ?_
      refine CW.seq ?_
      refine CW.region ?_
      refine RL.val rfl (run_move e5_10) ?_
      refine RL.callP rfl hH10 (c_clearanceref01_Of _ _  _ (hH10.sl (i := 0) rfl)) (run_call1 Tryd.call96 rfl) ?_
      intro w27 hH28
      refine RL.val rfl (run_assign (v := U _) rfl) ?_
      refine RL.nil ?_
      refine CW.ret ?_
      refine outP1 Tryd.results83 (congrArg U ?_) hH28.below
      first | exact (owner_no (nt ‹_›)).symm | (rw [hl]; exact owner_yes hr (by omega))

theorem c_clearanceref05_Top (r : Rl) (w : World) : Calls Tryd.prog 68 #[.agg (relC r)] w (Pure (U (topG r)) w) := by
  refine enter Tryd.func68 rfl Tryd.ntmps68 rfl ?_
  have hH := Hp.start w
  refine CW.seq ?_
  refine CW.region ?_
  refine RL.new rfl hH (f := fun b => (.pointer (some ⟨b, 0, none⟩))) (run_box (v := .agg _) rfl) ?_
  intro b3 w1 hH2
  refine RL.val rfl (run_assign (v := U 0#64) rfl) ?_
  refine RL.nil ?_
  refine CW.seq ?_
  refine CW.region ?_
  refine RL.val rfl (run_assign (v := .slice none 0 0) rfl) ?_
  have hH4 := hH2.nilRow 3 1
  refine RL.nil ?_
  refine CW.seq ?_
  refine CW.seq ?_
  refine CW.region ?_
  refine RL.val rfl (run_assign (v := I 0) rfl) ?_
  refine RL.nil ?_
  refine CW.block ?_
  refine CW.loop (G := (Int) × (List Int) × (Value)) (fun (⟨o, l, v3⟩ : (Int) × (List Int) × (Value)) s' w' => (Fr [3, 4, 5, 6, 7, 8, 9, 10, 11, 12, 13, 14, 15, 16, 17, 18, 19, 20, 21, 22, 23, 24, 25, 26, 27, 28] _ s') ∧ (Hp w w' (.row v3 3 1 (l.length) (l.map I) :: _)) ∧ (s' 3 = v3) ∧ (s' 4 = I o) ∧ (0 ≤ o) ∧ (rightG r = true → o ≤ r.n) ∧ (rightG r = false → l = []) ∧ (rightG r = true → l = topL r o)) (fun (⟨o, l, v3⟩ : (Int) × (List Int) × (Value)) => (9 - o).toNat) ((0, [], (.slice none 0 0 : Value))) ⟨Fr.refl _ _, hH4, rfl, rfl, (by omega), (fun h => by have := right_spec h; omega), fun _ => rfl, fun _ => rfl⟩ ?_
  rintro ⟨o, l, v3⟩ sg5 w5 ⟨fr5, hH5, e3_5, e4_5, o0, o1, o2, hl⟩
  have e1_5 : sg5 1 = .pointer (some ⟨_, _, none⟩) := (fr5 1 rfl).trans rfl
  have e2_5 : sg5 2 = U _ := (fr5 2 rfl).trans rfl
  refine CW.seq ?_
  refine CW.seq ?_
  refine CW.region ?_
  refine RL.val rfl (run_ldRel Tryd.underlying25 rfl rfl e1_5 (hH5.blk (i := 1) rfl)) ?_
  refine RL.callP rfl hH5 (c_clearanceref05_Right _  _) (run_call1 Tryd.call66 rfl) ?_
  intro w6 hH7
  refine RL.val rfl (run_move (v := B _) rfl) ?_
  refine RL.split (dj := 8) rfl (fun h9 => ?_) (fun h9 => ?_)
  · refine RL.gT rfl (bR (c := true) h9) ?_
    refine RL.val rfl (run_move e4_5) ?_
    refine RL.gT rfl (bR (c := true) h9) ?_
    refine RL.val rfl (run_fieldAddr Tryd.underlying25 rfl (off := 0) rfl Tryd.sizeOf3 (by decide) e1_5) ?_
    refine RL.gT rfl (bR (c := true) h9) ?_
    refine RL.val rfl (run_ld Tryd.underlying3 rfl rfl (hH7.cell (i := 1) rfl (relC_N _))) ?_
    refine RL.gT rfl (bR (c := true) h9) ?_
    refine RL.val rfl (run_lss rfl rfl) ?_
    refine RL.val rfl (run_pickT (bR (c := true) h9) (v := B _) rfl) ?_
    refine RL.nil ?_
    refine CW.condP rfl (fun h11 => ?_) (fun h11 => ?_)
    · refine CW.skip ?_
      refine CW.seq ?_
      refine CW.block ?_
      refine CW.seq ?_
      refine CW.region ?_
      refine RL.val rfl (run_assign (v := I 0) rfl) ?_
      refine RL.nil ?_
      refine CW.block ?_
      have hs := right_spec ‹rightG r = true›
      refine CW.loop (G := (Int) × (List Int) × (Value)) (fun (⟨x, l2, v3⟩ : (Int) × (List Int) × (Value)) s' w' => (Fr [3, 5, 16, 17, 18, 19, 20, 21, 22, 23, 24, 25, 26, 27, 28] _ s') ∧ (Hp w w' (.row v3 3 1 (l2.length) (l2.map I) :: _)) ∧ (s' 3 = v3) ∧ (s' 5 = I x) ∧ (0 ≤ x) ∧ (x ≤ r.n) ∧ (l2 = topL r o ++ (upto x).map (8 * o + ·))) (fun (⟨x, l2, v3⟩ : (Int) × (List Int) × (Value)) => (r.n - x).toNat) ((0, l, (v3 : Value))) ⟨Fr.refl _ _, hH7, e3_5, rfl, (by omega), (by omega), (by rw [hl ‹_›]; simp [upto])⟩ ?_
      rintro ⟨x, l2, v3⟩ sg12 w12 ⟨fr12, hH12, e3_12, e5_12, x0, x1, h2⟩
      have e1_12 := (fr12 1 rfl).trans e1_5
      have e2_12 := (fr12 2 rfl).trans e2_5
      have e4_12 := (fr12 4 rfl).trans e4_5
      have e6_12 : sg12 6 = .agg _ := (fr12 6 rfl).trans rfl
      have e7_12 : sg12 7 = B _ := (fr12 7 rfl).trans rfl
      have e8_12 : sg12 8 = B _ := (fr12 8 rfl).trans rfl
      have e9_12 : sg12 9 = I _ := (fr12 9 rfl).trans rfl
      have e10_12 : sg12 10 = .pointer (some ⟨_, _, none⟩) := (fr12 10 rfl).trans rfl
      have e11_12 : sg12 11 = I _ := (fr12 11 rfl).trans rfl
      have e12_12 : sg12 12 = B _ := (fr12 12 rfl).trans rfl
      have e13_12 : sg12 13 = B _ := (fr12 13 rfl).trans rfl
      refine CW.seq ?_
      refine CW.seq ?_
      refine CW.region ?_
      refine RL.val rfl (run_move e5_12) ?_
      refine RL.val rfl (run_fieldAddr Tryd.underlying25 rfl (off := 0) rfl Tryd.sizeOf3 (by decide) e1_12) ?_
      refine RL.val rfl (run_ld Tryd.underlying3 rfl rfl (hH12.cell (i := 1) rfl (relC_N _))) ?_
      refine RL.val rfl (run_lss rfl rfl) ?_
      refine RL.nil ?_
      refine CW.condP rfl (fun h14 => ?_) (fun h14 => ?_)
      · refine CW.skip ?_
        refine CW.seq ?_
        refine CW.block ?_
        refine CW.region ?_
        refine RL.val rfl (run_move e3_12) ?_
        refine RL.val rfl (run_move e4_12) ?_
        refine RL.val rfl (run_mul rfl rfl (by omega)) ?_
        refine RL.val rfl (run_move e5_12) ?_
        refine RL.val rfl (run_add rfl rfl (by omega)) ?_
        refine RL.new rfl hH12 (f := fun b => (.slice (some ⟨b, 0, none⟩) 1 1)) (run_mkL Tryd.underlying36 rfl rfl (sz := 1) (vs := [I _]) rfl rfl (by decide) (by decide) rfl rfl) ?_
        intro b17 w15 hH16
        (try simp only [List.flatMap_cons, List.flatMap_nil, clI, clB, clS, clP, clL, clA, List.append_nil, List.cons_append, List.nil_append] at hH16)
        refine RL.app rfl hH16 (i := 1) rfl (hH16.slBlk (i := 0) (n := 1) (sz := 1) rfl rfl (by decide)) rfl rfl Tryd.underlying36 rfl rfl (size := 1) (bytes := 8) rfl rfl rfl (by decide) (by simp [Value.oneCell']) (by rw [h2]; have := @topL_len r o (by omega) (by omega); simp [upto_len]; omega) (by rw [h2]; have := @topL_len r o (by omega) (by omega); simp only [maxLen]; simp [upto_len]; omega) ?_
        intro v18 w19 hH20
        simp only [List.set_cons_zero, List.set_cons_succ] at hH20
        refine RL.val rfl (run_assign (by conv => lhs; whnf)) ?_
        refine RL.nil ?_
        refine CW.region ?_
        refine RL.val rfl (run_move e5_12) ?_
        refine RL.val rfl (run_add rfl rfl (by omega)) ?_
        refine RL.val rfl (run_assign (v := I _) rfl) ?_
        refine RL.nil ?_
        refine ⟨(x + 1, l2 ++ [8 * o + x], v18), ?_, ((((((((((((((fr12.u rfl).u rfl).u rfl).u rfl).u rfl).u rfl).u rfl).u rfl).u rfl).u rfl).u rfl).u rfl).u rfl).u rfl).u rfl, (Hp.conv (hH20.sub (.cons _ (List.Sublist.refl _))) (by first | rfl | simp)), rfl, (congrArg I (by first | rfl | omega)), ?_, ?_, ?_⟩
        · ((try dsimp only); omega)
        · omega
        · omega
        · (rw [h2, List.append_assoc, topR_next x0])
      · refine CW.exit (id := 2) rfl ?_
        refine CW.region ?_
        refine RL.val rfl (run_move e4_12) ?_
        refine RL.val rfl (run_add rfl rfl (by omega)) ?_
        refine RL.val rfl (run_assign (v := I _) rfl) ?_
        refine RL.nil ?_
        refine ⟨(o + 1, l2, v3), ?_, (((((((((((((((((fr5.u rfl).u rfl).u rfl).u rfl).u rfl).u rfl).u rfl).u rfl).u rfl).t fr12 rfl)).u rfl).u rfl).u rfl).u rfl).u rfl).u rfl).u rfl, (Hp.conv hH12 (by first | rfl | simp)), e3_12, (congrArg I (by first | rfl | omega)), ?_, ?_, ?_, ?_⟩
        · have := right_spec ‹rightG r = true›; ((try dsimp only); omega)
        · omega
        · exact fun h => by omega
        · exact fun h => by rw [‹rightG r = true›] at h; cases h
        · exact fun _ => by rw [h2]; exact topL_next o0 (by omega)
    · refine CW.exit (id := 0) rfl ?_
      refine CW.seq ?_
      refine CW.region ?_
      refine RL.val rfl (run_move e3_5) ?_
      refine RL.callP rfl hH7 (c_clearanceref01_Of _ _  _ (hH7.sl (i := 0) rfl)) (run_call1 Tryd.call96 rfl) ?_
      intro w21 hH22
      refine RL.val rfl (run_assign (v := U _) rfl) ?_
      refine RL.nil ?_
      refine CW.ret ?_
      refine outP1 Tryd.results68 (congrArg U ?_) hH22.below
      first | (rw [o2 ‹_›, top_no ‹_›]; exact ofl_nil) | (rw [hl ‹_›]; exact top_ref ‹_› (by have := o1 ‹_›; omega))
  · refine RL.gF rfl rfl (bR (c := false) h9) rfl ?_
    refine RL.gF rfl rfl (bR (c := false) h9) rfl ?_
    refine RL.gF rfl rfl (bR (c := false) h9) rfl ?_
    refine RL.gF rfl rfl (bR (c := false) h9) rfl ?_
    refine RL.val rfl (run_pickF (bR (c := false) h9) (v := B false) rfl) ?_
    refine RL.nil ?_
    refine CW.condF rfl ?_
    refine CW.exit (id := 0) rfl ?_
    refine CW.seq ?_
    refine CW.region ?_
    refine RL.val rfl (run_move e3_5) ?_
    refine RL.callP rfl hH7 (c_clearanceref01_Of _ _  _ (hH7.sl (i := 0) rfl)) (run_call1 Tryd.call96 rfl) ?_
    intro w23 hH24
    refine RL.val rfl (run_assign (v := U _) rfl) ?_
    refine RL.nil ?_
    refine CW.ret ?_
    refine outP1 Tryd.results68 (congrArg U ?_) hH24.below
    first | (rw [o2 ‹_›, top_no ‹_›]; exact ofl_nil) | (rw [hl ‹_›]; exact top_ref ‹_› (by have := o1 ‹_›; omega))

theorem c_clearanceref05_Height (r : Rl) (w : World) : Calls Tryd.prog 69 #[.agg (relC r)] w (Pure (I (heightG r)) w) := by
  refine enter Tryd.func69 rfl Tryd.ntmps69 rfl ?_
  have hH := Hp.start w
  refine CW.seq ?_
  refine CW.region ?_
  refine RL.new rfl hH (f := fun b => (.pointer (some ⟨b, 0, none⟩))) (run_box (v := .agg _) rfl) ?_
  intro b3 w1 hH2
  refine RL.val rfl (run_assign (v := I 0) rfl) ?_
  refine RL.nil ?_
  refine CW.seq ?_
  refine CW.seq ?_
  refine CW.region ?_
  refine RL.val rfl (run_ldRel Tryd.underlying25 rfl rfl rfl (hH2.blk (i := 0) rfl)) ?_
  refine RL.callP rfl hH2 (c_clearanceref05_Right _  _) (run_call1 Tryd.call66 rfl) ?_
  intro w4 hH5
  refine RL.val rfl (run_not rfl) ?_
  refine RL.nil ?_
  refine CW.cond rfl (fun h8 => ?_) (fun h8 => ?_)
  · refine CW.seq ?_
    refine CW.region ?_
    refine RL.val rfl (run_assign (v := I 0) rfl) ?_
    refine RL.nil ?_
    refine CW.ret ?_
    refine outP1 Tryd.results69 (congrArg I ?_) hH5.below
    first | exact (height_no (nt ‹_›)).symm | exact height_yes (nf ‹_›)
  · refine CW.skip ?_
    refine CW.seq ?_
    refine CW.regionD (by kernel_rfl) hH5 ?_
    intro w9 hH10
    refine AN.take 0 rfl rfl (by kernel_rfl) (by kernel_rfl) (by kernel_rfl) (hH10.sub (List.Sublist.refl _)) (fun w hS => run_ldRel Tryd.underlying25 rfl rfl rfl (hS.blk (i := 0) rfl)) ?_
    refine AN.take 2 rfl rfl (by kernel_rfl) (by kernel_rfl) (by kernel_rfl) (hH10.sub (List.Sublist.refl _)) (fun w hS => run_ldRel Tryd.underlying25 rfl rfl rfl (hS.blk (i := 0) rfl)) ?_
    refine AN.one 1 (by kernel_rfl) ?_
    refine AO.callP rfl gnone rfl hH10 (List.Sublist.refl _) (c_clearanceref03_Classes _  _) (run_call1 Tryd.call77 rfl) ?_
    intro w11 hH12
    refine AN.one 3 (by kernel_rfl) ?_
    refine AO.callP rfl gnone rfl hH12 (List.Sublist.refl _) (c_clearanceref03_Classes _  _) (run_call1 Tryd.call77 rfl) ?_
    intro w13 hH14
    refine AN.take 4 rfl rfl (by kernel_rfl) (by kernel_rfl) (by kernel_rfl) (hH14.sub (List.Sublist.refl _)) (fun w hS => run_mul rfl rfl (by exact cls_sq (nf ‹_›))) ?_
    refine AN.take 5 rfl rfl (by kernel_rfl) (by kernel_rfl) (by kernel_rfl) (hH14.sub (List.Sublist.refl _)) (fun w hS => run_assign (v := I _) rfl) ?_
    refine AN.done (by kernel_rfl) ?_
    refine CW.ret ?_
    refine outP1 Tryd.results69 (congrArg I ?_) hH14.below
    first | exact (height_no (nt ‹_›)).symm | exact height_yes (nf ‹_›)

theorem c_clearancelaw05_two  (w : World) : Calls Tryd.prog 100 #[] w (Pure (.agg (relC (cloR (ofR 2 [(0, 1)])))) w) := by
  refine enter Tryd.func100 rfl Tryd.ntmps100 rfl ?_
  have hH := Hp.start w
  refine CW.seq ?_
  refine CW.region ?_
  refine RL.new rfl hH (f := fun b => (.pointer (some ⟨b, 0, none⟩))) (run_alloc zero_rel) ?_
  intro b3 w1 hH2
  refine RL.nil ?_
  refine CW.seq ?_
  refine CW.region ?_
  refine RL.val rfl (run_bld (vs := [(0, I 0), (1, I 1)]) rfl (built_pair _ _)) ?_
  refine RL.new rfl hH2 (f := fun b => (.slice (some ⟨b, 0, none⟩) 1 1)) (run_mkL Tryd.underlying46 rfl rfl (sz := 2) (vs := [.agg #[_, _]]) rfl rfl (by decide) (by decide) rfl rfl) ?_
  intro b6 w4 hH5
  (try simp only [List.flatMap_cons, List.flatMap_nil, clI, clB, clS, clP, clL, clA, List.append_nil, List.cons_append, List.nil_append] at hH5)
  refine RL.callP rfl hH5 (c_relate_Of 2 _ [(0, 1)] _ (hH5.slBlk (i := 0) (n := 1) (sz := 2) rfl rfl (by decide))) (run_call2 Tryd.call43 (show _ = I 2 from rfl) rfl) ?_
  intro w7 hH8
  refine RL.callP rfl hH8 (c_relate_Closure _  _) (run_call1 Tryd.call24 rfl) ?_
  intro w9 hH10
  refine RL.set hH10 (i := 1) rfl (run_stRel rfl rfl rfl (hH10.blk (i := 1) rfl)) ?_
  intro w11 hH12
  simp only [List.set_cons_zero, List.set_cons_succ] at hH12
  refine RL.nil ?_
  refine CW.ret ?_
  refine outC Tryd.results100 rfl hH12 (i := 1) rfl Tryd.underlying25 rfl rfl ⟨?_, hH12.below⟩
  rfl

theorem c_twoR (w : World) : Calls Tryd.prog 100 #[] w (Pure (.agg (relC twoR)) w) := by
  have h := c_clearancelaw05_two w
  rwa [show relC (cloR (ofR 2 [(0, 1)])) = relC twoR from relC_congr (by decide +kernel)] at h
theorem c_clearancelaw05_alive  (w : World) (hT : Tab w) : Calls Tryd.prog 63 #[] w (Pure (B true) w) := by
  refine enter Tryd.func63 rfl Tryd.ntmps63 rfl ?_
  have hH := Hp.start w
  refine CW.seq ?_
  refine CW.region ?_
  refine RL.val rfl (run_assign (v := B false) rfl) ?_
  refine RL.nil ?_
  refine CW.seq ?_
  refine CW.region ?_
  refine RL.callP rfl hH (c_twoR _) (run_call0 Tryd.call100) ?_
  intro w1 hH2
  refine RL.callP rfl hH2 (c_grid_Right _  _) (run_call1 Tryd.call61 rfl) ?_
  intro w3 hH4
  refine RL.val rfl (run_move (v := B _) rfl) ?_
  refine RL.gT rfl (bR (c := true) (by decide +kernel)) ?_
  refine RL.callP rfl hH4 (c_twoR _) (run_call0 Tryd.call100) ?_
  intro w6 hH7
  refine RL.gT rfl (bR (c := true) (by decide +kernel)) ?_
  refine RL.callP rfl hH7 (c_grid_Rule _ _ _  _ (hT.hp hH7)) (run_call3 Tryd.call78 rfl (show _ = I 0 from rfl) (show _ = U 2#64 from rfl)) ?_
  intro w8 hH9
  refine RL.gT rfl (bR (c := true) (by decide +kernel)) ?_
  refine RL.val rfl (run_eqlU rfl (b := 1#64) rfl) ?_
  refine RL.val rfl (run_pickT (bR (c := true) (by decide +kernel)) (v := B _) rfl) ?_
  refine RL.val rfl (run_move (v := B _) rfl) ?_
  refine RL.gT rfl (bT (by decide +kernel)) ?_
  refine RL.callP rfl hH9 (c_twoR _) (run_call0 Tryd.call100) ?_
  intro w11 hH12
  refine RL.gT rfl (bT (by decide +kernel)) ?_
  refine RL.callP rfl hH12 (c_grid_Height _  _ (hT.hp hH12)) (run_call1 Tryd.call62 rfl) ?_
  intro w13 hH14
  refine RL.gT rfl (bT (by decide +kernel)) ?_
  refine RL.val rfl (run_eql rfl rfl) ?_
  refine RL.val rfl (run_pickT (bT (by decide +kernel)) (v := B _) rfl) ?_
  refine RL.val rfl (run_move (v := B _) rfl) ?_
  refine RL.gT rfl (bT (by decide +kernel)) ?_
  refine RL.callP rfl hH14 (c_twoR _) (run_call0 Tryd.call100) ?_
  intro w16 hH17
  refine RL.gT rfl (bT (by decide +kernel)) ?_
  refine RL.callP rfl hH17 (c_grid_Top _  _) (run_call1 Tryd.call67 rfl) ?_
  intro w18 hH19
  refine RL.gT rfl (bT (by decide +kernel)) ?_
  refine RL.val rfl (run_eqlU rfl (b := 771#64) rfl) ?_
  refine RL.val rfl (run_pickT (bT (by decide +kernel)) (v := B _) rfl) ?_
  refine RL.val rfl (run_assign (v := B _) rfl) ?_
  refine RL.nil ?_
  refine CW.ret ?_
  refine outP1 Tryd.results63 (congrArg B ?_) hH19.below
  rfl

theorem c_clearancelaw05_GridCloses (r : Rl) (s : BitVec 64) (w : World) (hT : Tab w) : Calls Tryd.prog 14 #[.agg (relC r), U s] w (Pure (B true) w) := by
  refine enter Tryd.func14 rfl Tryd.ntmps14 rfl ?_
  have hH := Hp.start w
  refine CW.seq ?_
  refine CW.region ?_
  refine RL.new rfl hH (f := fun b => (.pointer (some ⟨b, 0, none⟩))) (run_box (v := .agg _) rfl) ?_
  intro b3 w1 hH2
  refine RL.val rfl (run_assign (v := B false) rfl) ?_
  refine RL.nil ?_
  refine CW.seq ?_
  refine CW.seq ?_
  refine CW.regionD (by kernel_rfl) hH2 ?_
  intro w4 hH5
  refine AN.take 0 rfl rfl (by kernel_rfl) (by kernel_rfl) (by kernel_rfl) (hH5.sub (List.Sublist.refl _)) (fun w hS => run_ldRel Tryd.underlying25 rfl rfl rfl (hS.blk (i := 0) rfl)) ?_
  refine AN.take 2 rfl rfl (by kernel_rfl) (by kernel_rfl) (by kernel_rfl) (hH5.sub (List.Sublist.refl _)) (fun w hS => run_ldRel Tryd.underlying25 rfl rfl rfl (hS.blk (i := 0) rfl)) ?_
  refine AN.one 1 (by kernel_rfl) ?_
  refine AO.callP rfl gnone rfl hH5 (List.Sublist.refl _) (c_grid_Right _  _) (run_call1 Tryd.call61 rfl) ?_
  intro w6 hH7
  refine AN.one 3 (by kernel_rfl) ?_
  refine AO.callP rfl gnone rfl hH7 (List.Sublist.refl _) (c_clearanceref05_Right _  _) (run_call1 Tryd.call66 rfl) ?_
  intro w9 hH10
  refine AN.take 4 rfl rfl (by kernel_rfl) (by kernel_rfl) (by kernel_rfl) (hH10.sub (List.Sublist.refl _)) (fun w hS => run_neqB Tryd.underlying4 rfl rfl) ?_
  refine AN.take 5 rfl rfl (by kernel_rfl) (by kernel_rfl) (by kernel_rfl) (hH10.sub (List.Sublist.refl _)) (fun w hS => run_move (v := B _) rfl) ?_
  refine AN.takeG 6 rfl rfl (bR (c := false) (by simp)) rfl (by kernel_rfl) (by kernel_rfl) (by kernel_rfl) (hH10.sub (List.Sublist.refl _)) (fun w hS => run_ldRel Tryd.underlying25 rfl rfl rfl (hS.blk (i := 0) rfl)) ?_
  refine AN.takeG 8 rfl rfl (bR (c := false) (by simp)) rfl (by kernel_rfl) (by kernel_rfl) (by kernel_rfl) (hH10.sub (List.Sublist.refl _)) (fun w hS => run_ldRel Tryd.underlying25 rfl rfl rfl (hS.blk (i := 0) rfl)) ?_
  refine AN.one 7 (by kernel_rfl) ?_
  refine AO.callP rfl (gsome rfl (bR (c := false) (by simp))) rfl hH10 (List.Sublist.refl _) (c_grid_Top _  _) (run_call1 Tryd.call67 rfl) ?_
  intro w13 hH14
  refine AN.one 9 (by kernel_rfl) ?_
  refine AO.callP rfl (gsome rfl (bR (c := false) (by simp))) rfl hH14 (List.Sublist.refl _) (c_clearanceref05_Top _  _) (run_call1 Tryd.call68 rfl) ?_
  intro w15 hH16
  refine AN.takeG 10 rfl rfl (bR (c := false) (by simp)) rfl (by kernel_rfl) (by kernel_rfl) (by kernel_rfl) (hH16.sub (List.Sublist.refl _)) (fun w hS => run_neqU rfl rfl) ?_
  refine AN.take 11 rfl rfl (by kernel_rfl) (by kernel_rfl) (by kernel_rfl) (hH16.sub (List.Sublist.refl _)) (fun w hS => run_pickF (bR (c := false) (by simp)) (v := B _) rfl) ?_
  refine AN.take 12 rfl rfl (by kernel_rfl) (by kernel_rfl) (by kernel_rfl) (hH16.sub (List.Sublist.refl _)) (fun w hS => run_move (v := B _) rfl) ?_
  refine AN.takeG 13 rfl rfl (bF (fun h => h rfl)) rfl (by kernel_rfl) (by kernel_rfl) (by kernel_rfl) (hH16.sub (List.Sublist.refl _)) (fun w hS => run_ldRel Tryd.underlying25 rfl rfl rfl (hS.blk (i := 0) rfl)) ?_
  refine AN.takeG 15 rfl rfl (bF (fun h => h rfl)) rfl (by kernel_rfl) (by kernel_rfl) (by kernel_rfl) (hH16.sub (List.Sublist.refl _)) (fun w hS => run_ldRel Tryd.underlying25 rfl rfl rfl (hS.blk (i := 0) rfl)) ?_
  refine AN.one 14 (by kernel_rfl) ?_
  refine AO.callP rfl (gsome rfl (bF (fun h => h rfl))) rfl hH16 (List.Sublist.refl _) (c_grid_Height _  _ (hT.hp hH16)) (run_call1 Tryd.call62 rfl) ?_
  intro w18 hH19
  refine AN.one 16 (by kernel_rfl) ?_
  refine AO.callP rfl (gsome rfl (bF (fun h => h rfl))) rfl hH19 (List.Sublist.refl _) (c_clearanceref05_Height _  _) (run_call1 Tryd.call69 rfl) ?_
  intro w20 hH21
  refine AN.takeG 17 rfl rfl (bF (fun h => h rfl)) rfl (by kernel_rfl) (by kernel_rfl) (by kernel_rfl) (hH21.sub (List.Sublist.refl _)) (fun w hS => run_neq rfl rfl) ?_
  refine AN.take 18 rfl rfl (by kernel_rfl) (by kernel_rfl) (by kernel_rfl) (hH21.sub (List.Sublist.refl _)) (fun w hS => run_pickF (bF (fun h => h rfl)) (v := B _) rfl) ?_
  refine AN.done (by kernel_rfl) ?_
  refine CW.condF (bF (fun h => h rfl)) ?_
  refine CW.skip ?_
  refine CW.seq ?_
  refine CW.region ?_
  refine RL.val rfl (run_ldRel Tryd.underlying25 rfl rfl rfl (hH21.blk (i := 0) rfl)) ?_
  refine RL.val rfl (run_move (v := U _) rfl) ?_
  refine RL.callP rfl hH21 (c_clearanceref05_Close _ _  _) (run_call2 Tryd.call70 rfl rfl) ?_
  intro w23 hH24
  refine RL.val rfl (run_assign (v := U _) rfl) ?_
  refine RL.nil ?_
  refine CW.seq ?_
  refine CW.regionD (by kernel_rfl) hH24 ?_
  intro w25 hH26
  refine AN.take 0 rfl rfl (by kernel_rfl) (by kernel_rfl) (by kernel_rfl) (hH26.sub (List.Sublist.refl _)) (fun w hS => run_ldRel Tryd.underlying25 rfl rfl rfl (hS.blk (i := 0) rfl)) ?_
  refine AN.take 1 rfl rfl (by kernel_rfl) (by kernel_rfl) (by kernel_rfl) (hH26.sub (List.Sublist.refl _)) (fun w hS => run_move (v := U _) rfl) ?_
  refine AN.take 3 rfl rfl (by kernel_rfl) (by kernel_rfl) (by kernel_rfl) (hH26.sub (List.Sublist.refl _)) (fun w hS => run_move (v := U _) rfl) ?_
  refine AN.one 2 (by kernel_rfl) ?_
  refine AO.callP rfl gnone rfl hH26 (List.Sublist.refl _) (c_grid_Close _ _  _ (hT.hp hH26)) (run_call2 Tryd.call64 rfl rfl) ?_
  intro w27 hH28
  refine AN.take 4 rfl rfl (by kernel_rfl) (by kernel_rfl) (by kernel_rfl) (hH28.sub (List.Sublist.refl _)) (fun w hS => run_eqlU rfl rfl) ?_
  refine AN.take 5 rfl rfl (by kernel_rfl) (by kernel_rfl) (by kernel_rfl) (hH28.sub (List.Sublist.refl _)) (fun w hS => run_move (v := B _) rfl) ?_
  refine AN.takeG 6 rfl rfl (bT (rfl)) rfl (by kernel_rfl) (by kernel_rfl) (by kernel_rfl) (hH28.sub (List.Sublist.refl _)) (fun w hS => run_ldRel Tryd.underlying25 rfl rfl rfl (hS.blk (i := 0) rfl)) ?_
  refine AN.takeG 7 rfl rfl (bT (rfl)) rfl (by kernel_rfl) (by kernel_rfl) (by kernel_rfl) (hH28.sub (List.Sublist.refl _)) (fun w hS => run_move (v := U _) rfl) ?_
  refine AN.takeG 9 rfl rfl (bT (rfl)) rfl (by kernel_rfl) (by kernel_rfl) (by kernel_rfl) (hH28.sub (List.Sublist.refl _)) (fun w hS => run_ldRel Tryd.underlying25 rfl rfl rfl (hS.blk (i := 0) rfl)) ?_
  refine AN.one 8 (by kernel_rfl) ?_
  refine AO.callP rfl (gsome rfl (bT (rfl))) rfl hH28 (List.Sublist.refl _) (c_grid_Closed _ _  _ (hT.hp hH28)) (run_call2 Tryd.call71 rfl rfl) ?_
  intro w30 hH31
  refine AN.one 10 (by kernel_rfl) ?_
  refine AO.callP rfl (gsome rfl (bT (rfl))) rfl hH31 (List.Sublist.refl _) (c_clearanceref05_Right _  _) (run_call1 Tryd.call66 rfl) ?_
  intro w33 hH34
  refine AN.takeG 11 rfl rfl (bT (rfl)) rfl (by kernel_rfl) (by kernel_rfl) (by kernel_rfl) (hH34.sub (List.Sublist.refl _)) (fun w hS => run_move (v := B _) rfl) ?_
  refine AN.split (dj := 39) rfl (fun h36 => ?_) (fun h36 => ?_)
  · refine AN.takeG 12 rfl rfl (bR (c := true) h36) rfl (by kernel_rfl) (by kernel_rfl) (by kernel_rfl) (hH34.sub (List.Sublist.refl _)) (fun w hS => run_move (v := U _) rfl) ?_
    refine AN.takeG 13 rfl rfl (bR (c := true) h36) rfl (by kernel_rfl) (by kernel_rfl) (by kernel_rfl) (hH34.sub (List.Sublist.refl _)) (fun w hS => run_move (v := U _) rfl) ?_
    refine AN.takeG 14 rfl rfl (bR (c := true) h36) rfl (by kernel_rfl) (by kernel_rfl) (by kernel_rfl) (hH34.sub (List.Sublist.refl _)) (fun w hS => run_eqlU rfl rfl) ?_
    refine AN.takeG 15 rfl rfl (bT (rfl)) rfl (by kernel_rfl) (by kernel_rfl) (by kernel_rfl) (hH34.sub (List.Sublist.refl _)) (fun w hS => run_pickT (bR (c := true) h36) (v := B _) rfl) ?_
    refine AN.takeG 16 rfl rfl (bT (rfl)) rfl (by kernel_rfl) (by kernel_rfl) (by kernel_rfl) (hH34.sub (List.Sublist.refl _)) (fun w hS => run_eqlB Tryd.underlying4 rfl rfl) ?_
    refine AN.take 17 rfl rfl (by kernel_rfl) (by kernel_rfl) (by kernel_rfl) (hH34.sub (List.Sublist.refl _)) (fun w hS => run_pickT (bT (rfl)) (v := B _) rfl) ?_
    refine AN.take 18 rfl rfl (by kernel_rfl) (by kernel_rfl) (by kernel_rfl) (hH34.sub (List.Sublist.refl _)) (fun w hS => run_move (v := B _) rfl) ?_
    refine AN.one 19 (by kernel_rfl) ?_
    refine AO.callP rfl (gsome rfl (bR (c := true) (by first | (rw [closedG, ‹rightG r = true›]; simp) | (rw [closedG, ‹rightG r = false›]; rfl)))) rfl hH34 (List.Sublist.refl _) (c_clearancelaw05_alive   _ (hT.hp hH34)) (run_call0 Tryd.call63) ?_
    intro w39 hH40
    refine AN.take 20 rfl rfl (by kernel_rfl) (by kernel_rfl) (by kernel_rfl) (hH40.sub (List.Sublist.refl _)) (fun w hS => run_pickT (bR (c := true) (by first | (rw [closedG, ‹rightG r = true›]; simp) | (rw [closedG, ‹rightG r = false›]; rfl))) (v := B _) rfl) ?_
    refine AN.take 21 rfl rfl (by kernel_rfl) (by kernel_rfl) (by kernel_rfl) (hH40.sub (List.Sublist.refl _)) (fun w hS => run_assign (v := B _) rfl) ?_
    refine AN.done (by kernel_rfl) ?_
    refine CW.ret ?_
    refine outP1 Tryd.results14 (congrArg B ?_) hH40.below
    rfl
  · refine AN.skipG 12 rfl rfl (bR (c := false) h36) rfl rfl (by kernel_rfl) (by kernel_rfl) (by kernel_rfl) (hH34.sub (List.Sublist.refl _)) ?_
    refine AN.skipG 13 rfl rfl (bR (c := false) h36) rfl rfl (by kernel_rfl) (by kernel_rfl) (by kernel_rfl) (hH34.sub (List.Sublist.refl _)) ?_
    refine AN.skipG 14 rfl rfl (bR (c := false) h36) rfl rfl (by kernel_rfl) (by kernel_rfl) (by kernel_rfl) (hH34.sub (List.Sublist.refl _)) ?_
    refine AN.takeG 15 rfl rfl (bT (rfl)) rfl (by kernel_rfl) (by kernel_rfl) (by kernel_rfl) (hH34.sub (List.Sublist.refl _)) (fun w hS => run_pickF (bR (c := false) h36) (v := B false) rfl) ?_
    refine AN.takeG 16 rfl rfl (bT (rfl)) rfl (by kernel_rfl) (by kernel_rfl) (by kernel_rfl) (hH34.sub (List.Sublist.refl _)) (fun w hS => run_eqlB Tryd.underlying4 rfl rfl) ?_
    refine AN.take 17 rfl rfl (by kernel_rfl) (by kernel_rfl) (by kernel_rfl) (hH34.sub (List.Sublist.refl _)) (fun w hS => run_pickT (bT (rfl)) (v := B _) rfl) ?_
    refine AN.take 18 rfl rfl (by kernel_rfl) (by kernel_rfl) (by kernel_rfl) (hH34.sub (List.Sublist.refl _)) (fun w hS => run_move (v := B _) rfl) ?_
    refine AN.one 19 (by kernel_rfl) ?_
    refine AO.callP rfl (gsome rfl (bR (c := true) (by first | (rw [closedG, ‹rightG r = true›]; simp) | (rw [closedG, ‹rightG r = false›]; rfl)))) rfl hH34 (List.Sublist.refl _) (c_clearancelaw05_alive   _ (hT.hp hH34)) (run_call0 Tryd.call63) ?_
    intro w43 hH44
    refine AN.take 20 rfl rfl (by kernel_rfl) (by kernel_rfl) (by kernel_rfl) (hH44.sub (List.Sublist.refl _)) (fun w hS => run_pickT (bR (c := true) (by first | (rw [closedG, ‹rightG r = true›]; simp) | (rw [closedG, ‹rightG r = false›]; rfl))) (v := B _) rfl) ?_
    refine AN.take 21 rfl rfl (by kernel_rfl) (by kernel_rfl) (by kernel_rfl) (hH44.sub (List.Sublist.refl _)) (fun w hS => run_assign (v := B _) rfl) ?_
    refine AN.done (by kernel_rfl) ?_
    refine CW.ret ?_
    refine outP1 Tryd.results14 (congrArg B ?_) hH44.below
    rfl

theorem c_clearancelaw05_GridRules (r : Rl) (s : BitVec 64) (o : Int) (w : World) (hT : Tab w) : Calls Tryd.prog 17 #[.agg (relC r), U s, I o] w (Pure (B true) w) := by
  refine enter Tryd.func17 rfl Tryd.ntmps17 rfl ?_
  have hH := Hp.start w
  refine CW.seq ?_
  refine CW.region ?_
  refine RL.new rfl hH (f := fun b => (.pointer (some ⟨b, 0, none⟩))) (run_box (v := .agg _) rfl) ?_
  intro b3 w1 hH2
  refine RL.val rfl (run_assign (v := B false) rfl) ?_
  refine RL.nil ?_
  refine CW.seq ?_
  refine CW.regionD (by kernel_rfl) hH2 ?_
  intro w4 hH5
  refine AN.take 0 rfl rfl (by kernel_rfl) (by kernel_rfl) (by kernel_rfl) (hH5.sub (List.Sublist.refl _)) (fun w hS => run_ldRel Tryd.underlying25 rfl rfl rfl (hS.blk (i := 0) rfl)) ?_
  refine AN.take 1 rfl rfl (by kernel_rfl) (by kernel_rfl) (by kernel_rfl) (hH5.sub (List.Sublist.refl _)) (fun w hS => run_move (v := I _) rfl) ?_
  refine AN.take 2 rfl rfl (by kernel_rfl) (by kernel_rfl) (by kernel_rfl) (hH5.sub (List.Sublist.refl _)) (fun w hS => run_move (v := U _) rfl) ?_
  refine AN.take 4 rfl rfl (by kernel_rfl) (by kernel_rfl) (by kernel_rfl) (hH5.sub (List.Sublist.refl _)) (fun w hS => run_ldRel Tryd.underlying25 rfl rfl rfl (hS.blk (i := 0) rfl)) ?_
  refine AN.take 5 rfl rfl (by kernel_rfl) (by kernel_rfl) (by kernel_rfl) (hH5.sub (List.Sublist.refl _)) (fun w hS => run_move (v := I _) rfl) ?_
  refine AN.take 6 rfl rfl (by kernel_rfl) (by kernel_rfl) (by kernel_rfl) (hH5.sub (List.Sublist.refl _)) (fun w hS => run_move (v := U _) rfl) ?_
  refine AN.one 3 (by kernel_rfl) ?_
  refine AO.callP rfl gnone rfl hH5 (List.Sublist.refl _) (c_grid_Rule _ _ _  _ (hT.hp hH5)) (run_call3 Tryd.call78 rfl rfl rfl) ?_
  intro w6 hH7
  refine AN.one 7 (by kernel_rfl) ?_
  refine AO.callP rfl gnone rfl hH7 (List.Sublist.refl _) (c_clearanceref05_Rule _ _ _  _) (run_call3 Tryd.call79 rfl rfl rfl) ?_
  intro w8 hH9
  refine AN.take 8 rfl rfl (by kernel_rfl) (by kernel_rfl) (by kernel_rfl) (hH9.sub (List.Sublist.refl _)) (fun w hS => run_eqlU rfl rfl) ?_
  refine AN.take 9 rfl rfl (by kernel_rfl) (by kernel_rfl) (by kernel_rfl) (hH9.sub (List.Sublist.refl _)) (fun w hS => run_move (v := B _) rfl) ?_
  refine AN.takeG 10 rfl rfl (bT (rfl)) rfl (by kernel_rfl) (by kernel_rfl) (by kernel_rfl) (hH9.sub (List.Sublist.refl _)) (fun w hS => run_ldRel Tryd.underlying25 rfl rfl rfl (hS.blk (i := 0) rfl)) ?_
  refine AN.takeG 11 rfl rfl (bT (rfl)) rfl (by kernel_rfl) (by kernel_rfl) (by kernel_rfl) (hH9.sub (List.Sublist.refl _)) (fun w hS => run_move (v := U _) rfl) ?_
  refine AN.takeG 12 rfl rfl (bT (rfl)) rfl (by kernel_rfl) (by kernel_rfl) (by kernel_rfl) (hH9.sub (List.Sublist.refl _)) (fun w hS => run_move (v := I _) rfl) ?_
  refine AN.takeG 14 rfl rfl (bT (rfl)) rfl (by kernel_rfl) (by kernel_rfl) (by kernel_rfl) (hH9.sub (List.Sublist.refl _)) (fun w hS => run_ldRel Tryd.underlying25 rfl rfl rfl (hS.blk (i := 0) rfl)) ?_
  refine AN.takeG 15 rfl rfl (bT (rfl)) rfl (by kernel_rfl) (by kernel_rfl) (by kernel_rfl) (hH9.sub (List.Sublist.refl _)) (fun w hS => run_move (v := U _) rfl) ?_
  refine AN.takeG 16 rfl rfl (bT (rfl)) rfl (by kernel_rfl) (by kernel_rfl) (by kernel_rfl) (hH9.sub (List.Sublist.refl _)) (fun w hS => run_move (v := I _) rfl) ?_
  refine AN.one 13 (by kernel_rfl) ?_
  refine AO.callP rfl (gsome rfl (bT (rfl))) rfl hH9 (List.Sublist.refl _) (c_grid_Readers _ _ _  _) (run_call3 Tryd.call80 rfl rfl rfl) ?_
  intro w11 hH12
  refine AN.one 17 (by kernel_rfl) ?_
  refine AO.callP rfl (gsome rfl (bT (rfl))) rfl hH12 (List.Sublist.refl _) (c_clearanceref05_Readers _ _ _  _) (run_call3 Tryd.call81 rfl rfl rfl) ?_
  intro w13 hH14
  refine AN.takeG 18 rfl rfl (bT (rfl)) rfl (by kernel_rfl) (by kernel_rfl) (by kernel_rfl) (hH14.sub (List.Sublist.refl _)) (fun w hS => run_eqlU rfl rfl) ?_
  refine AN.take 19 rfl rfl (by kernel_rfl) (by kernel_rfl) (by kernel_rfl) (hH14.sub (List.Sublist.refl _)) (fun w hS => run_pickT (bT (rfl)) (v := B _) rfl) ?_
  refine AN.take 20 rfl rfl (by kernel_rfl) (by kernel_rfl) (by kernel_rfl) (hH14.sub (List.Sublist.refl _)) (fun w hS => run_move (v := B _) rfl) ?_
  refine AN.takeG 21 rfl rfl (bT (rfl)) rfl (by kernel_rfl) (by kernel_rfl) (by kernel_rfl) (hH14.sub (List.Sublist.refl _)) (fun w hS => run_ldRel Tryd.underlying25 rfl rfl rfl (hS.blk (i := 0) rfl)) ?_
  refine AN.takeG 22 rfl rfl (bT (rfl)) rfl (by kernel_rfl) (by kernel_rfl) (by kernel_rfl) (hH14.sub (List.Sublist.refl _)) (fun w hS => run_move (v := U _) rfl) ?_
  refine AN.takeG 24 rfl rfl (bT (rfl)) rfl (by kernel_rfl) (by kernel_rfl) (by kernel_rfl) (hH14.sub (List.Sublist.refl _)) (fun w hS => run_ldRel Tryd.underlying25 rfl rfl rfl (hS.blk (i := 0) rfl)) ?_
  refine AN.takeG 25 rfl rfl (bT (rfl)) rfl (by kernel_rfl) (by kernel_rfl) (by kernel_rfl) (hH14.sub (List.Sublist.refl _)) (fun w hS => run_move (v := U _) rfl) ?_
  refine AN.one 23 (by kernel_rfl) ?_
  refine AO.callP rfl (gsome rfl (bT (rfl))) rfl hH14 (List.Sublist.refl _) (c_grid_Owners _ _  _) (run_call2 Tryd.call82 rfl rfl) ?_
  intro w16 hH17
  refine AN.one 26 (by kernel_rfl) ?_
  refine AO.callP rfl (gsome rfl (bT (rfl))) rfl hH17 (List.Sublist.refl _) (c_clearanceref05_Owners _ _  _) (run_call2 Tryd.call83 rfl rfl) ?_
  intro w18 hH19
  refine AN.takeG 27 rfl rfl (bT (rfl)) rfl (by kernel_rfl) (by kernel_rfl) (by kernel_rfl) (hH19.sub (List.Sublist.refl _)) (fun w hS => run_eqlU rfl rfl) ?_
  refine AN.take 28 rfl rfl (by kernel_rfl) (by kernel_rfl) (by kernel_rfl) (hH19.sub (List.Sublist.refl _)) (fun w hS => run_pickT (bT (rfl)) (v := B _) rfl) ?_
  refine AN.take 29 rfl rfl (by kernel_rfl) (by kernel_rfl) (by kernel_rfl) (hH19.sub (List.Sublist.refl _)) (fun w hS => run_move (v := B _) rfl) ?_
  refine AN.one 30 (by kernel_rfl) ?_
  refine AO.callP rfl (gsome rfl (bT (rfl))) rfl hH19 (List.Sublist.refl _) (c_clearancelaw05_alive   _ (hT.hp hH19)) (run_call0 Tryd.call63) ?_
  intro w21 hH22
  refine AN.take 31 rfl rfl (by kernel_rfl) (by kernel_rfl) (by kernel_rfl) (hH22.sub (List.Sublist.refl _)) (fun w hS => run_pickT (bT (rfl)) (v := B _) rfl) ?_
  refine AN.take 32 rfl rfl (by kernel_rfl) (by kernel_rfl) (by kernel_rfl) (hH22.sub (List.Sublist.refl _)) (fun w hS => run_assign (v := B _) rfl) ?_
  refine AN.done (by kernel_rfl) ?_
  refine CW.ret ?_
  refine outP1 Tryd.results17 (congrArg B ?_) hH22.below
  rfl

theorem c_clearancelaw05_GridLeast (r : Rl) (u s : BitVec 64) (w : World) (hT : Tab w) : Calls Tryd.prog 15 #[.agg (relC r), U u, U s] w (Pure (B true) w) := by
  refine enter Tryd.func15 rfl Tryd.ntmps15 rfl ?_
  have hH := Hp.start w
  refine CW.seq ?_
  refine CW.region ?_
  refine RL.new rfl hH (f := fun b => (.pointer (some ⟨b, 0, none⟩))) (run_box (v := .agg _) rfl) ?_
  intro b3 w1 hH2
  refine RL.val rfl (run_assign (v := B false) rfl) ?_
  refine RL.nil ?_
  refine CW.seq ?_
  refine CW.seq ?_
  refine CW.region ?_
  refine RL.val rfl (run_ldRel Tryd.underlying25 rfl rfl rfl (hH2.blk (i := 0) rfl)) ?_
  refine RL.callP rfl hH2 (c_grid_Right _  _) (run_call1 Tryd.call61 rfl) ?_
  intro w4 hH5
  refine RL.val rfl (run_not rfl) ?_
  refine RL.nil ?_
  refine CW.cond rfl (fun h8 => ?_) (fun h8 => ?_)
  · refine CW.seq ?_
    refine CW.region ?_
    refine RL.callP rfl hH5 (c_clearancelaw05_alive   _ (hT.hp hH5)) (run_call0 Tryd.call63) ?_
    intro w9 hH10
    refine RL.val rfl (run_assign (v := B _) rfl) ?_
    refine RL.nil ?_
    refine CW.ret ?_
    refine outP1 Tryd.results15 (congrArg B ?_) hH10.below
    rfl
  · refine CW.skip ?_
    refine CW.seq ?_
    refine CW.regionD (by kernel_rfl) hH5 ?_
    intro w12 hH13
    refine AN.take 0 rfl rfl (by kernel_rfl) (by kernel_rfl) (by kernel_rfl) (hH13.sub (List.Sublist.refl _)) (fun w hS => run_ldRel Tryd.underlying25 rfl rfl rfl (hS.blk (i := 0) rfl)) ?_
    refine AN.take 1 rfl rfl (by kernel_rfl) (by kernel_rfl) (by kernel_rfl) (hH13.sub (List.Sublist.refl _)) (fun w hS => run_move (v := U _) rfl) ?_
    refine AN.take 3 rfl rfl (by kernel_rfl) (by kernel_rfl) (by kernel_rfl) (hH13.sub (List.Sublist.refl _)) (fun w hS => run_ldRel Tryd.underlying25 rfl rfl rfl (hS.blk (i := 0) rfl)) ?_
    refine AN.take 4 rfl rfl (by kernel_rfl) (by kernel_rfl) (by kernel_rfl) (hH13.sub (List.Sublist.refl _)) (fun w hS => run_move (v := U _) rfl) ?_
    refine AN.one 2 (by kernel_rfl) ?_
    refine AO.callP rfl gnone rfl hH13 (List.Sublist.refl _) (c_grid_Close _ _  _ (hT.hp hH13)) (run_call2 Tryd.call64 rfl rfl) ?_
    intro w14 hH15
    refine AN.one 5 (by kernel_rfl) ?_
    refine AO.callP rfl gnone rfl hH15 (List.Sublist.refl _) (c_grid_Close _ _  _ (hT.hp hH15)) (run_call2 Tryd.call64 rfl rfl) ?_
    intro w16 hH17
    refine AN.take 6 rfl rfl (by kernel_rfl) (by kernel_rfl) (by kernel_rfl) (hH17.sub (List.Sublist.refl _)) (fun w hS => run_assign (v := U _) rfl) ?_
    refine AN.take 7 rfl rfl (by kernel_rfl) (by kernel_rfl) (by kernel_rfl) (hH17.sub (List.Sublist.refl _)) (fun w hS => run_assign (v := U _) rfl) ?_
    refine AN.done (by kernel_rfl) ?_
    refine CW.seq ?_
    refine CW.seq ?_
    refine CW.region ?_
    refine RL.val rfl (run_move (v := U _) rfl) ?_
    refine RL.val rfl (run_ldRel Tryd.underlying25 rfl rfl rfl (hH17.blk (i := 0) rfl)) ?_
    refine RL.callP rfl hH17 (c_grid_Top _  _) (run_call1 Tryd.call67 rfl) ?_
    intro w18 hH19
    refine RL.val rfl (run_andU rfl rfl) ?_
    refine RL.val rfl (run_move (v := U _) rfl) ?_
    refine RL.callP rfl hH19 (c_mask_Sub _ _  _) (run_call2 Tryd.call60 rfl rfl) ?_
    intro w20 hH21
    refine RL.val rfl (run_not (bR (c := true) (gl_sub (nf ‹(!rightG r) = false›) u))) ?_
    refine RL.val rfl (run_move (v := B _) rfl) ?_
    refine RL.gT rfl rfl ?_
    refine RL.val rfl (run_ldRel Tryd.underlying25 rfl rfl rfl (hH21.blk (i := 0) rfl)) ?_
    refine RL.gT rfl rfl ?_
    refine RL.val rfl (run_move (v := U _) rfl) ?_
    refine RL.gT rfl rfl ?_
    refine RL.callP rfl hH21 (c_grid_Close _ _  _ (hT.hp hH21)) (run_call2 Tryd.call64 rfl rfl) ?_
    intro w23 hH24
    refine RL.gT rfl rfl ?_
    refine RL.val rfl (run_move (v := U _) rfl) ?_
    refine RL.gT rfl rfl ?_
    refine RL.val rfl (run_neqU rfl rfl) ?_
    refine RL.val rfl (run_pickF rfl (v := B _) rfl) ?_
    refine RL.val rfl (run_move (v := B _) rfl) ?_
    refine RL.gT rfl (bF (fun h => h (gl_idem (nf ‹(!rightG r) = false›) u))) ?_
    refine RL.val rfl (run_move (v := U _) rfl) ?_
    refine RL.gT rfl (bF (fun h => h (gl_idem (nf ‹(!rightG r) = false›) u))) ?_
    refine RL.val rfl (run_ldRel Tryd.underlying25 rfl rfl rfl (hH24.blk (i := 0) rfl)) ?_
    refine RL.gT rfl (bF (fun h => h (gl_idem (nf ‹(!rightG r) = false›) u))) ?_
    refine RL.callP rfl hH24 (c_grid_Top _  _) (run_call1 Tryd.call67 rfl) ?_
    intro w26 hH27
    refine RL.gT rfl (bF (fun h => h (gl_idem (nf ‹(!rightG r) = false›) u))) ?_
    refine RL.callP rfl hH27 (c_mask_Sub _ _  _) (run_call2 Tryd.call60 rfl rfl) ?_
    intro w28 hH29
    refine RL.gT rfl (bF (fun h => h (gl_idem (nf ‹(!rightG r) = false›) u))) ?_
    refine RL.val rfl (run_not (bR (c := true) (gl_top (nf ‹(!rightG r) = false›) u))) ?_
    refine RL.val rfl (run_pickF (bF (fun h => h (gl_idem (nf ‹(!rightG r) = false›) u))) (v := B _) rfl) ?_
    refine RL.val rfl (run_move (v := B _) rfl) ?_
    refine RL.gT rfl rfl ?_
    refine RL.val rfl (run_move (v := U _) rfl) ?_
    refine RL.gT rfl rfl ?_
    refine RL.val rfl (run_move (v := U _) rfl) ?_
    refine RL.gT rfl rfl ?_
    refine RL.callP rfl hH29 (c_mask_Sub _ _  _) (run_call2 Tryd.call60 rfl rfl) ?_
    intro w31 hH32
    refine RL.gT rfl rfl ?_
    refine RL.val rfl (run_move (v := B _) rfl) ?_
    refine RL.split (dj := 44) rfl (fun h34 => ?_) (fun h34 => ?_)
    · refine RL.gT rfl (bR (c := true) h34) ?_
      refine RL.val rfl (run_move (v := U _) rfl) ?_
      refine RL.gT rfl (bR (c := true) h34) ?_
      refine RL.val rfl (run_move (v := U _) rfl) ?_
      refine RL.gT rfl (bR (c := true) h34) ?_
      refine RL.callP rfl hH32 (c_mask_Sub _ _  _) (run_call2 Tryd.call60 rfl rfl) ?_
      intro w35 hH36
      refine RL.gT rfl (bR (c := true) h34) ?_
      refine RL.val rfl (run_not (bR (c := true) (gl_least (nf ‹(!rightG r) = false›) ‹_›))) ?_
      refine RL.gT rfl rfl ?_
      refine RL.val rfl (run_pickT (bR (c := true) h34) (v := B _) rfl) ?_
      refine RL.val rfl (run_pickF rfl (v := B _) rfl) ?_
      refine RL.nil ?_
      refine CW.condF rfl ?_
      refine CW.skip ?_
      refine CW.seq ?_
      refine CW.region ?_
      refine RL.val rfl (run_ldRel Tryd.underlying25 rfl rfl rfl (hH36.blk (i := 0) rfl)) ?_
      refine RL.val rfl (run_move (v := U _) rfl) ?_
      refine RL.val rfl (run_move (v := U _) rfl) ?_
      refine RL.val rfl (run_orU rfl rfl) ?_
      refine RL.callP rfl hH36 (c_grid_Closed _ _  _ (hT.hp hH36)) (run_call2 Tryd.call71 rfl rfl) ?_
      intro w38 hH39
      refine RL.val rfl (run_move (v := B _) rfl) ?_
      refine RL.gT rfl (bR (c := true) (gl_or (nf ‹(!rightG r) = false›) u s)) ?_
      refine RL.val rfl (run_ldRel Tryd.underlying25 rfl rfl rfl (hH39.blk (i := 0) rfl)) ?_
      refine RL.gT rfl (bR (c := true) (gl_or (nf ‹(!rightG r) = false›) u s)) ?_
      refine RL.val rfl (run_move (v := U _) rfl) ?_
      refine RL.gT rfl (bR (c := true) (gl_or (nf ‹(!rightG r) = false›) u s)) ?_
      refine RL.val rfl (run_move (v := U _) rfl) ?_
      refine RL.gT rfl (bR (c := true) (gl_or (nf ‹(!rightG r) = false›) u s)) ?_
      refine RL.val rfl (run_andU rfl rfl) ?_
      refine RL.gT rfl (bR (c := true) (gl_or (nf ‹(!rightG r) = false›) u s)) ?_
      refine RL.callP rfl hH39 (c_grid_Closed _ _  _ (hT.hp hH39)) (run_call2 Tryd.call71 rfl rfl) ?_
      intro w41 hH42
      refine RL.val rfl (run_pickT (bR (c := true) (gl_or (nf ‹(!rightG r) = false›) u s)) (v := B _) rfl) ?_
      refine RL.val rfl (run_move (v := B _) rfl) ?_
      refine RL.gT rfl (bR (c := true) (gl_and (nf ‹(!rightG r) = false›) u s)) ?_
      refine RL.callP rfl hH42 (c_clearancelaw05_alive   _ (hT.hp hH42)) (run_call0 Tryd.call63) ?_
      intro w44 hH45
      refine RL.val rfl (run_pickT (bR (c := true) (gl_and (nf ‹(!rightG r) = false›) u s)) (v := B _) rfl) ?_
      refine RL.val rfl (run_assign (v := B _) rfl) ?_
      refine RL.nil ?_
      refine CW.ret ?_
      refine outP1 Tryd.results15 (congrArg B ?_) hH45.below
      rfl
    · refine RL.gF rfl rfl (bR (c := false) h34) rfl ?_
      refine RL.gF rfl rfl (bR (c := false) h34) rfl ?_
      refine RL.gF rfl rfl (bR (c := false) h34) rfl ?_
      refine RL.gF rfl rfl (bR (c := false) h34) rfl ?_
      refine RL.gT rfl rfl ?_
      refine RL.val rfl (run_pickF (bR (c := false) h34) (v := B false) rfl) ?_
      refine RL.val rfl (run_pickF rfl (v := B _) rfl) ?_
      refine RL.nil ?_
      refine CW.condF rfl ?_
      refine CW.skip ?_
      refine CW.seq ?_
      refine CW.region ?_
      refine RL.val rfl (run_ldRel Tryd.underlying25 rfl rfl rfl (hH32.blk (i := 0) rfl)) ?_
      refine RL.val rfl (run_move (v := U _) rfl) ?_
      refine RL.val rfl (run_move (v := U _) rfl) ?_
      refine RL.val rfl (run_orU rfl rfl) ?_
      refine RL.callP rfl hH32 (c_grid_Closed _ _  _ (hT.hp hH32)) (run_call2 Tryd.call71 rfl rfl) ?_
      intro w47 hH48
      refine RL.val rfl (run_move (v := B _) rfl) ?_
      refine RL.gT rfl (bR (c := true) (gl_or (nf ‹(!rightG r) = false›) u s)) ?_
      refine RL.val rfl (run_ldRel Tryd.underlying25 rfl rfl rfl (hH48.blk (i := 0) rfl)) ?_
      refine RL.gT rfl (bR (c := true) (gl_or (nf ‹(!rightG r) = false›) u s)) ?_
      refine RL.val rfl (run_move (v := U _) rfl) ?_
      refine RL.gT rfl (bR (c := true) (gl_or (nf ‹(!rightG r) = false›) u s)) ?_
      refine RL.val rfl (run_move (v := U _) rfl) ?_
      refine RL.gT rfl (bR (c := true) (gl_or (nf ‹(!rightG r) = false›) u s)) ?_
      refine RL.val rfl (run_andU rfl rfl) ?_
      refine RL.gT rfl (bR (c := true) (gl_or (nf ‹(!rightG r) = false›) u s)) ?_
      refine RL.callP rfl hH48 (c_grid_Closed _ _  _ (hT.hp hH48)) (run_call2 Tryd.call71 rfl rfl) ?_
      intro w50 hH51
      refine RL.val rfl (run_pickT (bR (c := true) (gl_or (nf ‹(!rightG r) = false›) u s)) (v := B _) rfl) ?_
      refine RL.val rfl (run_move (v := B _) rfl) ?_
      refine RL.gT rfl (bR (c := true) (gl_and (nf ‹(!rightG r) = false›) u s)) ?_
      refine RL.callP rfl hH51 (c_clearancelaw05_alive   _ (hT.hp hH51)) (run_call0 Tryd.call63) ?_
      intro w53 hH54
      refine RL.val rfl (run_pickT (bR (c := true) (gl_and (nf ‹(!rightG r) = false›) u s)) (v := B _) rfl) ?_
      refine RL.val rfl (run_assign (v := B _) rfl) ?_
      refine RL.nil ?_
      refine CW.ret ?_
      refine outP1 Tryd.results15 (congrArg B ?_) hH54.below
      rfl

theorem c_clearancelaw05_GridBack (r : Rl) (s : BitVec 64) (w : World) (hT : Tab w) : Calls Tryd.prog 18 #[.agg (relC r), U s] w (Pure (B true) w) := by
  have hl := lst_len (ownersG r (closeG r s))
  refine enter Tryd.func18 rfl Tryd.ntmps18 rfl ?_
  have hH := Hp.start w
  refine CW.seq ?_
  refine CW.region ?_
  refine RL.new rfl hH (f := fun b => (.pointer (some ⟨b, 0, none⟩))) (run_box (v := .agg _) rfl) ?_
  intro b3 w1 hH2
  refine RL.val rfl (run_assign (v := B false) rfl) ?_
  refine RL.nil ?_
  refine CW.seq ?_
  refine CW.seq ?_
  refine CW.region ?_
  refine RL.val rfl (run_ldRel Tryd.underlying25 rfl rfl rfl (hH2.blk (i := 0) rfl)) ?_
  refine RL.callP rfl hH2 (c_grid_Right _  _) (run_call1 Tryd.call61 rfl) ?_
  intro w4 hH5
  refine RL.val rfl (run_not rfl) ?_
  refine RL.nil ?_
  refine CW.cond rfl (fun h8 => ?_) (fun h8 => ?_)
  · refine CW.seq ?_
    refine CW.region ?_
    refine RL.callP rfl hH5 (c_clearancelaw05_alive   _ (hT.hp hH5)) (run_call0 Tryd.call63) ?_
    intro w9 hH10
    refine RL.val rfl (run_assign (v := B _) rfl) ?_
    refine RL.nil ?_
    refine CW.ret ?_
    refine outP1 Tryd.results18 (congrArg B ?_) hH10.below
    rfl
  · refine CW.skip ?_
    refine CW.seq ?_
    refine CW.region ?_
    refine RL.val rfl (run_ldRel Tryd.underlying25 rfl rfl rfl (hH5.blk (i := 0) rfl)) ?_
    refine RL.val rfl (run_move (v := U _) rfl) ?_
    refine RL.callP rfl hH5 (c_grid_Close _ _  _ (hT.hp hH5)) (run_call2 Tryd.call64 rfl rfl) ?_
    intro w12 hH13
    refine RL.val rfl (run_assign (v := U _) rfl) ?_
    refine RL.nil ?_
    refine CW.seq ?_
    refine CW.region ?_
    refine RL.val rfl (run_assign (v := U 0#64) rfl) ?_
    refine RL.nil ?_
    refine CW.seq ?_
    refine CW.region ?_
    refine RL.val rfl (run_ldRel Tryd.underlying25 rfl rfl rfl (hH13.blk (i := 0) rfl)) ?_
    refine RL.val rfl (run_move (v := U _) rfl) ?_
    refine RL.callP rfl hH13 (c_grid_Owners _ _  _) (run_call2 Tryd.call82 rfl rfl) ?_
    intro w14 hH15
    refine RL.callR rfl hH15 (c_mask_List _  _ (hT.hp hH15)) (run_call1 Tryd.call84 rfl) ?_
    intro v18 w16 hH17
    refine RL.val rfl (run_assign (by conv => lhs; whnf)) ?_
    refine RL.nil ?_
    refine CW.seq ?_
    refine CW.seq ?_
    refine CW.region ?_
    refine RL.val rfl (run_move (by conv => lhs; whnf)) ?_
    refine RL.val rfl (run_lenSl (hH17.sl (i := 0) rfl) rfl Tryd.underlying36 rfl) ?_
    refine RL.val rfl (run_move (v := I 0) rfl) ?_
    refine RL.nil ?_
    refine CW.block ?_
    refine CW.loop (G := (Int)) (fun (k : Int) s' w' => (Fr [6, 9, 23, 24, 25, 26, 27, 28, 29, 30, 31, 32, 33, 34, 35, 36] _ s') ∧ (Hp w w' _) ∧ (s' 6 = U (orAll (fun o => ruleG r o (readersG r (closeG r s) o)) ((lst (ownersG r (closeG r s))).take k.toNat))) ∧ (s' 23 = I k) ∧ (0 ≤ k) ∧ (k ≤ (lst (ownersG r (closeG r s))).length)) (fun (k : Int) => ((lst (ownersG r (closeG r s))).length - k).toNat) (0) ⟨Fr.refl _ _, hH17, (congrArg U (by simp [orAll])), rfl, (by omega), (by omega)⟩ ?_
    rintro k sg19 w19 ⟨fr19, hH19, e6_19, e23_19, h0, hk⟩
    have e2_19 : sg19 2 = .pointer (some ⟨_, _, none⟩) := (fr19 2 rfl).trans rfl
    have e4_19 : sg19 4 = B _ := (fr19 4 rfl).trans rfl
    have e5_19 : sg19 5 = U _ := (fr19 5 rfl).trans rfl
    have e21_19 := (fr19 21 rfl).trans (by conv => lhs; whnf)
    have e22_19 : sg19 22 = I _ := (fr19 22 rfl).trans rfl
    refine CW.seq ?_
    refine CW.region ?_
    refine RL.val rfl (run_lss e23_19 e22_19) ?_
    refine RL.nil ?_
    refine CW.seq ?_
    refine CW.condP rfl (fun h21 => ?_) (fun h21 => ?_)
    · refine CW.skip ?_
      refine CW.seq ?_
      refine CW.block ?_
      refine CW.seq ?_
      refine CW.region ?_
      refine RL.val rfl (run_indexAddrS (hH19.sl (i := 0) rfl) Tryd.underlying36 Tryd.sizeOf3 e21_19 e23_19 (by omega)) ?_
      refine RL.val rfl (run_ld Tryd.underlying3 rfl rfl ((hH19.sl (i := 0) rfl).cell _ _ (map_at (by omega)))) ?_
      refine RL.val rfl (run_assign (v := I _) rfl) ?_
      refine RL.nil ?_
      refine CW.regionD (by kernel_rfl) hH19 ?_
      intro w22 hH23
      refine AN.take 0 rfl rfl (by kernel_rfl) (by kernel_rfl) (by kernel_rfl) (hH23.sub (List.Sublist.refl _)) (fun w hS => run_move e6_19) ?_
      refine AN.take 1 rfl rfl (by kernel_rfl) (by kernel_rfl) (by kernel_rfl) (hH23.sub (List.Sublist.refl _)) (fun w hS => run_ldRel Tryd.underlying25 rfl rfl e2_19 (hS.blk (i := 1) rfl)) ?_
      refine AN.take 2 rfl rfl (by kernel_rfl) (by kernel_rfl) (by kernel_rfl) (hH23.sub (List.Sublist.refl _)) (fun w hS => run_move (v := I _) rfl) ?_
      refine AN.take 3 rfl rfl (by kernel_rfl) (by kernel_rfl) (by kernel_rfl) (hH23.sub (List.Sublist.refl _)) (fun w hS => run_ldRel Tryd.underlying25 rfl rfl e2_19 (hS.blk (i := 1) rfl)) ?_
      refine AN.take 4 rfl rfl (by kernel_rfl) (by kernel_rfl) (by kernel_rfl) (hH23.sub (List.Sublist.refl _)) (fun w hS => run_move e5_19) ?_
      refine AN.take 5 rfl rfl (by kernel_rfl) (by kernel_rfl) (by kernel_rfl) (hH23.sub (List.Sublist.refl _)) (fun w hS => run_move (v := I _) rfl) ?_
      refine AN.one 6 (by kernel_rfl) ?_
      refine AO.callP rfl gnone rfl hH23 (List.Sublist.refl _) (c_grid_Readers _ _ _  _) (run_call3 Tryd.call80 rfl rfl rfl) ?_
      intro w24 hH25
      refine AN.one 7 (by kernel_rfl) ?_
      refine AO.callP rfl gnone rfl hH25 (List.Sublist.refl _) (c_grid_Rule _ _ _  _ (hT.hp hH25)) (run_call3 Tryd.call78 rfl rfl rfl) ?_
      intro w26 hH27
      refine AN.take 8 rfl rfl (by kernel_rfl) (by kernel_rfl) (by kernel_rfl) (hH27.sub (List.Sublist.refl _)) (fun w hS => run_orU rfl rfl) ?_
      refine AN.take 9 rfl rfl (by kernel_rfl) (by kernel_rfl) (by kernel_rfl) (hH27.sub (List.Sublist.refl _)) (fun w hS => run_assign (v := U _) rfl) ?_
      refine AN.done (by kernel_rfl) ?_
      refine CW.region ?_
      refine RL.val rfl (run_add e23_19 rfl (by omega)) ?_
      refine RL.val rfl (run_move (v := I _) rfl) ?_
      refine RL.nil ?_
      refine ⟨k + 1, ?_, (((((((((((((((fr19.u rfl).u rfl).u rfl).u rfl).u rfl).u rfl).u rfl).u rfl).u rfl).u rfl).u rfl).u rfl).u rfl).u rfl).u rfl).u rfl, hH27, (congrArg U (orAll_next (f := fun o => ruleG r o (readersG r (closeG r s) o)) h0 ‹_›)), (congrArg I (by first | rfl | omega)), ?_, ?_⟩
      · ((try dsimp only); omega)
      · omega
      · omega
    · refine CW.exit (id := 0) rfl ?_
      refine CW.seq ?_
      refine CW.region ?_
      refine RL.val rfl (run_move e6_19) ?_
      refine RL.val rfl (run_move e5_19) ?_
      refine RL.val rfl (run_eqlU rfl rfl) ?_
      refine RL.val rfl (run_move (v := B _) rfl) ?_
      refine RL.gT rfl (bT (by rw [take_all ‹_›]; exact gl_back (nf ‹(!rightG r) = false›) s)) ?_
      refine RL.callP rfl hH19 (c_clearancelaw05_alive   _ (hT.hp hH19)) (run_call0 Tryd.call63) ?_
      intro w29 hH30
      refine RL.val rfl (run_pickT (bT (by rw [take_all ‹_›]; exact gl_back (nf ‹(!rightG r) = false›) s)) (v := B _) rfl) ?_
      refine RL.val rfl (run_assign (v := B _) rfl) ?_
      refine RL.nil ?_
      refine CW.ret ?_
      refine outP1 Tryd.results18 (congrArg B ?_) hH30.below
      rfl

theorem c_clearancelaw05_GridHeight (r : Rl) (w : World) (hT : Tab w) : Calls Tryd.prog 13 #[.agg (relC r)] w (Pure (B true) w) := by
  refine enter Tryd.func13 rfl Tryd.ntmps13 rfl ?_
  have hH := Hp.start w
  refine CW.seq ?_
  refine CW.region ?_
  refine RL.new rfl hH (f := fun b => (.pointer (some ⟨b, 0, none⟩))) (run_box (v := .agg _) rfl) ?_
  intro b3 w1 hH2
  refine RL.val rfl (run_assign (v := B false) rfl) ?_
  refine RL.nil ?_
  refine CW.seq ?_
  refine CW.seq ?_
  refine CW.region ?_
  refine RL.val rfl (run_ldRel Tryd.underlying25 rfl rfl rfl (hH2.blk (i := 0) rfl)) ?_
  refine RL.callP rfl hH2 (c_grid_Right _  _) (run_call1 Tryd.call61 rfl) ?_
  intro w4 hH5
  refine RL.val rfl (run_not rfl) ?_
  refine RL.nil ?_
  refine CW.cond rfl (fun h8 => ?_) (fun h8 => ?_)
  · refine CW.seq ?_
    refine CW.region ?_
    refine RL.val rfl (run_ldRel Tryd.underlying25 rfl rfl rfl (hH5.blk (i := 0) rfl)) ?_
    refine RL.callP rfl hH5 (c_grid_Height _  _ (hT.hp hH5)) (run_call1 Tryd.call62 rfl) ?_
    intro w9 hH10
    refine RL.val rfl (run_eql rfl rfl) ?_
    refine RL.val rfl (run_move (v := B _) rfl) ?_
    refine RL.gT rfl (bT (height_no (nt ‹_›))) ?_
    refine RL.callP rfl hH10 (c_clearancelaw05_alive   _ (hT.hp hH10)) (run_call0 Tryd.call63) ?_
    intro w12 hH13
    refine RL.val rfl (run_pickT (bT (height_no (nt ‹_›))) (v := B _) rfl) ?_
    refine RL.val rfl (run_assign (v := B _) rfl) ?_
    refine RL.nil ?_
    refine CW.ret ?_
    refine outP1 Tryd.results13 (congrArg B ?_) hH13.below
    rfl
  · refine CW.skip ?_
    refine CW.seq ?_
    refine CW.region ?_
    refine RL.val rfl (run_assign (v := .slice none 0 0) rfl) ?_
    have hH15 := hH5.nilRow 22 1
    refine RL.nil ?_
    refine CW.seq ?_
    refine CW.seq ?_
    refine CW.region ?_
    refine RL.val rfl (run_assign (v := I 0) rfl) ?_
    refine RL.nil ?_
    refine CW.block ?_
    have hr : rightG r = true := nf ‹_›
    have hs := right_spec hr
    refine CW.loop (G := (Int) × (List (BitVec 64)) × (Value)) (fun (⟨i, l, v3⟩ : (Int) × (List (BitVec 64)) × (Value)) s' w' => (Fr [3, 4, 5, 6, 8, 18, 19, 20, 21, 22, 23, 24, 25, 26, 27, 28, 29, 30, 31, 32, 33, 34, 35, 36, 37, 38, 39, 40, 41, 42, 43, 44, 45, 46, 47] _ s') ∧ (Hp w w' (.row v3 22 1 (l.length) (l.map U) :: _)) ∧ (s' 3 = v3) ∧ (s' 4 = I i) ∧ (0 ≤ i) ∧ (i ≤ 64) ∧ (l = metL r i)) (fun (⟨i, l, v3⟩ : (Int) × (List (BitVec 64)) × (Value)) => (64 - i).toNat) ((0, [], (.slice none 0 0 : Value))) ⟨Fr.refl _ _, hH15, rfl, rfl, (by omega), (by omega), rfl⟩ ?_
    rintro ⟨i, l, v3⟩ sg16 w16 ⟨fr16, hH16, e3_16, e4_16, i0, i1, hl⟩
    have e1_16 : sg16 1 = .pointer (some ⟨_, _, none⟩) := (fr16 1 rfl).trans rfl
    have e2_16 : sg16 2 = B _ := (fr16 2 rfl).trans rfl
    refine CW.seq ?_
    refine CW.seq ?_
    refine CW.region ?_
    refine RL.val rfl (run_move e4_16) ?_
    refine RL.val rfl (run_lss rfl rfl) ?_
    refine RL.nil ?_
    refine CW.condP rfl (fun h18 => ?_) (fun h18 => ?_)
    · refine CW.skip ?_
      refine CW.seq ?_
      refine CW.block ?_
      refine CW.seq ?_
      refine CW.regionD (by kernel_rfl) hH16 ?_
      intro w19 hH20
      refine AN.take 0 rfl rfl (by kernel_rfl) (by kernel_rfl) (by kernel_rfl) (hH20.sub (List.Sublist.refl _)) (fun w hS => run_ldRel Tryd.underlying25 rfl rfl e1_16 (hS.blk (i := 1) rfl)) ?_
      refine AN.take 1 rfl rfl (by kernel_rfl) (by kernel_rfl) (by kernel_rfl) (hH20.sub (List.Sublist.refl _)) (fun w hS => run_move e4_16) ?_
      refine AN.one 2 (by kernel_rfl) ?_
      refine AO.new rfl gnone rfl hH20 (List.Sublist.refl _) (f := fun b => .slice (some ⟨b, 0, none⟩) 1 1) (run_mkL Tryd.underlying36 rfl rfl (sz := 1) (vs := [I _]) rfl rfl (by decide) (by decide) rfl rfl) ?_
      intro b23 w21 hH22
      (try simp only [List.flatMap_cons, List.flatMap_nil, clI, clB, clS, clP, clL, clA, List.append_nil, List.cons_append, List.nil_append] at hH22)
      refine AN.one 3 (by kernel_rfl) ?_
      refine AO.callP rfl gnone rfl hH22 (.cons _ (List.Sublist.refl _)) (c_mask_Of _ [i] _ (hH22.slBlk (i := 0) (n := 1) (sz := 1) rfl rfl (by decide))) (run_call1 Tryd.call65 rfl) ?_
      intro w24 hH25
      refine AN.one 4 (by kernel_rfl) ?_
      refine AO.callP rfl gnone rfl hH25 (.cons _ (List.Sublist.refl _)) (c_grid_Close _ _  _ (hT.hp hH25)) (run_call2 Tryd.call64 rfl rfl) ?_
      intro w26 hH27
      refine AN.take 5 rfl rfl (by kernel_rfl) (by kernel_rfl) (by kernel_rfl) (hH27.sub (.cons _ (List.Sublist.refl _))) (fun w hS => run_assign (v := U _) rfl) ?_
      refine AN.done (by kernel_rfl) ?_
      refine CW.seq ?_
      refine CW.region ?_
      refine RL.val rfl (run_move (v := U _) rfl) ?_
      refine RL.val rfl (run_eqlU rfl (b := 0#64) rfl) ?_
      refine RL.val rfl (run_assign (v := B _) rfl) ?_
      refine RL.nil ?_
      refine CW.seq ?_
      refine CW.seq ?_
      refine CW.region ?_
      refine RL.val rfl (run_move e3_16) ?_
      refine RL.val rfl (run_lenSl (hH27.sl (i := 1) rfl) rfl Tryd.underlying64 rfl) ?_
      refine RL.val rfl (run_move (v := I 0) rfl) ?_
      refine RL.nil ?_
      refine CW.block ?_
      have hml : l.length ≤ 64 := by rw [hl]; have := @met_len r i; omega
      refine CW.loop (G := (Int)) (fun (j : Int) s' w' => (Fr [6, 8, 31, 32, 33, 34, 35, 36, 37, 38, 39, 40, 41] _ s') ∧ (Hp w w' _) ∧ (s' 6 = B (isTo (oneG r i) l j)) ∧ (s' 31 = I j) ∧ (0 ≤ j) ∧ (j ≤ l.length)) (fun (j : Int) => (l.length - j).toNat) (0) ⟨Fr.refl _ _, hH27, (congrArg B is_zero), rfl, (by omega), (by omega)⟩ ?_
      rintro j sg29 w29 ⟨fr29, hH29, e6_29, e31_29, j0, j1⟩
      have e1_29 := (fr29 1 rfl).trans e1_16
      have e2_29 := (fr29 2 rfl).trans e2_16
      have e3_29 := (fr29 3 rfl).trans e3_16
      have e4_29 := (fr29 4 rfl).trans e4_16
      have e5_29 : sg29 5 = U _ := (fr29 5 rfl).trans rfl
      have e18_29 : sg29 18 = I _ := (fr29 18 rfl).trans rfl
      have e19_29 : sg29 19 = B _ := (fr29 19 rfl).trans rfl
      have e22_29 : sg29 22 = .agg _ := (fr29 22 rfl).trans rfl
      have e23_29 : sg29 23 = I _ := (fr29 23 rfl).trans rfl
      have e24_29 := (fr29 24 rfl).trans (by conv => lhs; whnf)
      have e25_29 : sg29 25 = U _ := (fr29 25 rfl).trans rfl
      have e26_29 : sg29 26 = U _ := (fr29 26 rfl).trans rfl
      have e27_29 : sg29 27 = U _ := (fr29 27 rfl).trans rfl
      have e28_29 : sg29 28 = B _ := (fr29 28 rfl).trans rfl
      have e29_29 := (fr29 29 rfl).trans (by conv => lhs; whnf)
      have e30_29 : sg29 30 = I _ := (fr29 30 rfl).trans rfl
      refine CW.seq ?_
      refine CW.region ?_
      refine RL.val rfl (run_lss e31_29 e30_29) ?_
      refine RL.nil ?_
      refine CW.seq ?_
      refine CW.condP rfl (fun h32 => ?_) (fun h32 => ?_)
      · refine CW.skip ?_
        refine CW.seq ?_
        refine CW.block ?_
        refine CW.seq ?_
        refine CW.region ?_
        refine RL.val rfl (run_indexAddrS (hH29.sl (i := 1) rfl) Tryd.underlying64 Tryd.sizeOf22 e29_29 e31_29 (by omega)) ?_
        refine RL.val rfl (run_ld Tryd.underlying22 rfl rfl ((hH29.sl (i := 1) rfl).cell _ _ (map_atU (by omega)))) ?_
        refine RL.val rfl (run_assign (v := U _) rfl) ?_
        refine RL.nil ?_
        refine CW.region ?_
        refine RL.val rfl (run_move e6_29) ?_
        refine RL.val rfl (run_move (v := B _) rfl) ?_
        refine RL.split (dj := 36) rfl (fun h33 => ?_) (fun h33 => ?_)
        · refine RL.gF rfl rfl (bR (c := true) h33) rfl ?_
          refine RL.gF rfl rfl (bR (c := true) h33) rfl ?_
          refine RL.gF rfl rfl (bR (c := true) h33) rfl ?_
          refine RL.val rfl (run_pickT (bR (c := true) h33) (v := B true) rfl) ?_
          refine RL.val rfl (run_assign (v := B _) rfl) ?_
          refine RL.nil ?_
          refine CW.region ?_
          refine RL.val rfl (run_add e31_29 rfl (by omega)) ?_
          refine RL.val rfl (run_move (v := I _) rfl) ?_
          refine RL.nil ?_
          refine ⟨j + 1, ?_, ((((((((((((fr29.u rfl).u rfl).u rfl).u rfl).u rfl).u rfl).u rfl).u rfl).u rfl).u rfl).u rfl).u rfl).u rfl, hH29, (congrArg B (by first | exact is_t j0 ‹_› ‹_› | exact is_f j0 ‹_› ‹_›)), (congrArg I (by first | rfl | omega)), ?_, ?_⟩
          · ((try dsimp only); omega)
          · omega
          · omega
        · refine RL.gT rfl (bR (c := false) h33) ?_
          refine RL.val rfl (run_move (v := U _) rfl) ?_
          refine RL.gT rfl (bR (c := false) h33) ?_
          refine RL.val rfl (run_move e5_29) ?_
          refine RL.gT rfl (bR (c := false) h33) ?_
          refine RL.val rfl (run_eqlU rfl rfl) ?_
          refine RL.val rfl (run_pickF (bR (c := false) h33) (v := B _) rfl) ?_
          refine RL.val rfl (run_assign (v := B _) rfl) ?_
          refine RL.nil ?_
          refine CW.region ?_
          refine RL.val rfl (run_add e31_29 rfl (by omega)) ?_
          refine RL.val rfl (run_move (v := I _) rfl) ?_
          refine RL.nil ?_
          refine ⟨j + 1, ?_, ((((((((((((fr29.u rfl).u rfl).u rfl).u rfl).u rfl).u rfl).u rfl).u rfl).u rfl).u rfl).u rfl).u rfl).u rfl, hH29, (congrArg B (by first | exact is_t j0 ‹_› ‹_› | exact is_f j0 ‹_› ‹_›)), (congrArg I (by first | rfl | omega)), ?_, ?_⟩
          · ((try dsimp only); omega)
          · omega
          · omega
      · refine CW.exit (id := 2) rfl ?_
        refine CW.seq ?_
        refine CW.region ?_
        refine RL.val rfl (run_move e6_29) ?_
        refine RL.val rfl (run_not rfl) ?_
        refine RL.nil ?_
        refine CW.cond rfl (fun h36 => ?_) (fun h36 => ?_)
        · refine CW.region ?_
          refine RL.val rfl (run_move e3_29) ?_
          refine RL.val rfl (run_move e5_29) ?_
          refine RL.new rfl hH29 (f := fun b => (.slice (some ⟨b, 0, none⟩) 1 1)) (run_mkL Tryd.underlying64 rfl rfl (sz := 1) (vs := [U _]) rfl rfl (by decide) (by decide) rfl rfl) ?_
          intro b39 w37 hH38
          (try simp only [List.flatMap_cons, List.flatMap_nil, clI, clB, clS, clP, clL, clA, List.append_nil, List.cons_append, List.nil_append] at hH38)
          refine RL.app rfl hH38 (i := 2) rfl (hH38.slBlk (i := 0) (n := 1) (sz := 1) rfl rfl (by decide)) rfl rfl Tryd.underlying64 rfl rfl (size := 1) (bytes := 8) rfl rfl rfl (by decide) (by simp [Value.oneCell']) (by rw [hl]; have := @met_len r i; omega) (by rw [hl]; have := @met_len r i; simp only [maxLen]; omega) ?_
          intro v40 w41 hH42
          simp only [List.set_cons_zero, List.set_cons_succ] at hH42
          refine RL.val rfl (run_assign (by conv => lhs; whnf)) ?_
          refine RL.nil ?_
          refine CW.region ?_
          refine RL.val rfl (run_move e4_29) ?_
          refine RL.val rfl (run_add rfl rfl (by omega)) ?_
          refine RL.val rfl (run_assign (v := I _) rfl) ?_
          refine RL.nil ?_
          refine ⟨(i + 1, l ++ [closeG r (ofl [i])], v40), ?_, ((((((((((((((((((((((((((fr16.u rfl).u rfl).u rfl).u rfl).u rfl).u rfl).u rfl).u rfl).u rfl).u rfl).u rfl).u rfl).u rfl).u rfl).t fr29 rfl)).u rfl).u rfl).u rfl).u rfl).u rfl).u rfl).u rfl).u rfl).u rfl).u rfl).u rfl, (Hp.conv (hH42.sub (.cons _ (.cons _ (List.Sublist.refl _)))) (by first | rfl | simp)), rfl, (congrArg I (by first | rfl | omega)), ?_, ?_, ?_⟩
          · ((try dsimp only); omega)
          · omega
          · omega
          · first | exact met_yesL hr hl i0 ‹_› ‹_› (nt ‹_›) | exact met_noL hr hl i0 ‹_› ‹_› (nf ‹_›)
        · refine CW.skip ?_
          refine CW.region ?_
          refine RL.val rfl (run_move e4_29) ?_
          refine RL.val rfl (run_add rfl rfl (by omega)) ?_
          refine RL.val rfl (run_assign (v := I _) rfl) ?_
          refine RL.nil ?_
          refine ⟨(i + 1, l, v3), ?_, (((((((((((((((((((((fr16.u rfl).u rfl).u rfl).u rfl).u rfl).u rfl).u rfl).u rfl).u rfl).u rfl).u rfl).u rfl).u rfl).u rfl).t fr29 rfl)).u rfl).u rfl).u rfl).u rfl).u rfl).u rfl, (Hp.conv (hH29.sub (.cons _ (List.Sublist.refl _))) (by first | rfl | simp)), e3_29, (congrArg I (by first | rfl | omega)), ?_, ?_, ?_⟩
          · ((try dsimp only); omega)
          · omega
          · omega
          · first | exact met_yesL hr hl i0 ‹_› ‹_› (nt ‹_›) | exact met_noL hr hl i0 ‹_› ‹_› (nf ‹_›)
    · refine CW.exit (id := 0) rfl ?_
      refine CW.seq ?_
      refine CW.region ?_
      refine RL.val rfl (run_move e3_16) ?_
      refine RL.val rfl (run_lenSl (hH16.sl (i := 0) rfl) rfl Tryd.underlying64 rfl) ?_
      refine RL.val rfl (run_ldRel Tryd.underlying25 rfl rfl e1_16 (hH16.blk (i := 1) rfl)) ?_
      refine RL.callP rfl hH16 (c_grid_Height _  _ (hT.hp hH16)) (run_call1 Tryd.call62 rfl) ?_
      intro w43 hH44
      refine RL.val rfl (run_eql rfl rfl) ?_
      refine RL.val rfl (run_move (v := B _) rfl) ?_
      refine RL.gT rfl (bT (by rw [hl]; exact gl_height hr (by omega))) ?_
      refine RL.callP rfl hH44 (c_clearancelaw05_alive   _ (hT.hp hH44)) (run_call0 Tryd.call63) ?_
      intro w46 hH47
      refine RL.val rfl (run_pickT (bT (by rw [hl]; exact gl_height hr (by omega))) (v := B _) rfl) ?_
      refine RL.val rfl (run_assign (v := B _) rfl) ?_
      refine RL.nil ?_
      refine CW.ret ?_
      refine outP1 Tryd.results13 (congrArg B ?_) hH47.below
      rfl

end Go.Proofs.YtgpneklbdmgjgaaDoor.W
