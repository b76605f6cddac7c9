/-
  The walks of the functions that the laws of this seat reach, part 1: each returns what its plain counterpart tells, and turns nothing that was there.
-/
import Derived.Test.YtphknfjaellkjaaProg
import Derived.Test.YtphknfjaellkjaaEnv
import Derived.Test.YtphknfjaellkjaaPlain
import Derived.Test.YtphknfjaellkjaaBase
import Derived.WalkKit
import Derived.Ground.NamesProg
import Derived.Shelf.Slices.In.SortNone
import Derived.Sort.EveryDepth
import Derived.Sort.OwnSortedInts
import Derived.Test.YtphknfjaellkjaaOrd
import Derived.Test.YtphknfjaellkjaaRel
import Derived.Test.YtphknfjaellkjaaClo
import Derived.Test.YtphknfjaellkjaaCov
import Derived.Test.YtphknfjaellkjaaArr
import Derived.Test.YtphknfjaellkjaaHas
import Derived.Test.YtphknfjaellkjaaStr
import Derived.Test.YtphknfjaellkjaaVu
import Derived.Test.YtphknfjaellkjaaGrd
import Derived.Test.YtphknfjaellkjaaShp
import Derived.Test.YtphknfjaellkjaaShq
import Derived.Test.YtphknfjaellkjaaCut
import Derived.Test.YtphknfjaellkjaaRec
import Derived.Test.YtphknfjaellkjaaScp
import Derived.Test.YtphknfjaellkjaaByt
import Derived.Test.YtphknfjaellkjaaNod
import Derived.Test.YtphknfjaellkjaaSpl
import Derived.Test.YtphknfjaellkjaaSpn
import Derived.Test.YtphknfjaellkjaaSpx
import Derived.Test.YtphknfjaellkjaaSpy
import Derived.Test.YtphknfjaellkjaaAsn
import Derived.Test.YtphknfjaellkjaaAsp
import Derived.Test.YtphknfjaellkjaaMk
import Derived.Test.YtphknfjaellkjaaAsr
import Derived.Test.YtphknfjaellkjaaAst
import Derived.Test.YtphknfjaellkjaaGap
import Derived.Test.YtphknfjaellkjaaFst
import Derived.Test.YtphknfjaellkjaaFsu
import Derived.Test.YtphknfjaellkjaaFsv
import Derived.Test.YtphknfjaellkjaaFsx
import Derived.Test.YtphknfjaellkjaaCel
import Derived.Test.YtphknfjaellkjaaFsw
import Derived.Test.YtphknfjaellkjaaFor
import Derived.Test.YtphknfjaellkjaaFov
import Derived.Test.YtphknfjaellkjaaRch
namespace Go.Proofs.Ytphknfjaellkjaa.W
open Go Go.RowKit Go.Proofs.Ytphknfjaellkjaa.E Go.Proofs.Ytphknfjaellkjaa.M
set_option linter.unusedVariables false
set_option linter.unusedSimpArgs false
set_option maxRecDepth 100000
theorem zero_rel : ∀ w, (zeroValue 31).run Try.prog w = .ok (.agg (relC Rl.none)) w := fun w => by
  rw [relC_def]; exact Try.zeroValue31 w
theorem built_rel (a : Int) : Try.prog.built 31 [(0, I a)] = some (relC ⟨a, fun _ => 0#64⟩) := by
  rw [relC_def]; rfl
theorem pairT_fields : Try.prog.fieldsOf 24 = #[{ name := "Low", type := 3, offset := 0, embedded := false, tag := "", pkgPath := "", byteOffset := 0 }, { name := "High", type := 3, offset := 1, embedded := false, tag := "", pkgPath := "", byteOffset := 8 }] := by
  unfold Program.fieldsOf; rw [Try.underlying24]
theorem pairT_fact : PairT Try.prog 24 { name := "Low", type := 3, offset := 0, embedded := false, tag := "", pkgPath := "", byteOffset := 0 } { name := "High", type := 3, offset := 1, embedded := false, tag := "", pkgPath := "", byteOffset := 8 } :=
  ⟨by rw [pairT_fields]; exact Try.underlying24, pairT_fields, by decide, by decide, rfl, rfl, Try.underlying3, Try.isAgg3, Try.underlying3, Try.isAgg3, by kernel_rfl, by kernel_rfl⟩
abbrev FX : FTy := (⟨(⟨40, 47, 78, 3, 28⟩ : UT), 65, 28, 1, 3⟩ : FTy)
theorem c_clearanceref01_Ints (va vb : Value) (a b : List Int) (w : World) (ha : Sl w va 1 a.length (a.map I)) (hb : Sl w vb 1 b.length (b.map I)) : Calls Try.prog 22 #[va, vb] w (Pure (B (decide (a = b))) w) := by
  have hma := ha.small
  have hmb := hb.small
  unfold maxLen at hma hmb
  refine enter Try.func22 rfl Try.ntmps22 rfl ?_
  have hH := Hp.start w
  refine CW.seq ?_
  refine CW.region ?_
  refine RL.val rfl (run_assign (v := B false) rfl) ?_
  refine RL.nil ?_
  refine CW.seq ?_
  refine CW.seq ?_
  refine CW.region ?_
  refine RL.val rfl (run_move (by conv => lhs; whnf)) ?_
  refine RL.val rfl (run_lenSl (ha.hp hH) rfl Try.underlying37 rfl) ?_
  refine RL.val rfl (run_move (by conv => lhs; whnf)) ?_
  refine RL.val rfl (run_lenSl (hb.hp hH) rfl Try.underlying37 rfl) ?_
  refine RL.val rfl (run_neq rfl rfl) ?_
  refine RL.nil ?_
  refine CW.condP rfl (fun h2 => ?_) (fun h2 => ?_)
  · refine CW.seq ?_
    refine CW.region ?_
    refine RL.val rfl (run_assign (v := B false) rfl) ?_
    refine RL.nil ?_
    refine CW.ret ?_
    refine outP1 Try.results22 (congrArg B ?_) hH.below
    (exact (decide_eq_false fun h => absurd (congrArg (fun z : List Int => (z.length : Int)) h) ‹(a.length : Int) ≠ b.length›).symm)
  · refine CW.skip ?_
    refine CW.seq ?_
    refine CW.seq ?_
    refine CW.region ?_
    refine RL.val rfl (run_assign (v := I 0) rfl) ?_
    refine RL.nil ?_
    refine CW.block ?_
    have hab : a.length = b.length := by omega
    refine CW.loop (G := (Int)) (fun (k : Int) s' w' => (Fr [4, 5, 11, 12, 13, 14, 15, 16, 17, 18, 19, 20, 21, 22, 23, 24, 25] _ s') ∧ (Hp w w' _) ∧ (s' 5 = I k) ∧ (0 ≤ k) ∧ (k ≤ a.length) ∧ (∀ j : Int, 0 ≤ j → j < k → a.getD j.toNat 0 = b.getD j.toNat 0)) (fun (k : Int) => (a.length - k).toNat) (0) ⟨Fr.refl _ _, hH, rfl, (by omega), (by omega), fun j a b => absurd b (by omega)⟩ ?_
    rintro k sg3 w3 ⟨fr3, hH3, e5_3, h0, hk, hf⟩
    have e0_3 := (fr3 0 rfl).trans (by conv => lhs; whnf)
    have e1_3 := (fr3 1 rfl).trans (by conv => lhs; whnf)
    refine CW.seq ?_
    refine CW.seq ?_
    refine CW.region ?_
    refine RL.val rfl (run_move e5_3) ?_
    refine RL.val rfl (run_move e0_3) ?_
    refine RL.val rfl (run_lenSl (ha.hp hH3) rfl Try.underlying37 rfl) ?_
    refine RL.val rfl (run_lss rfl rfl) ?_
    refine RL.nil ?_
    refine CW.condP rfl (fun h5 => ?_) (fun h5 => ?_)
    · refine CW.skip ?_
      refine CW.seq ?_
      refine CW.block ?_
      refine CW.seq ?_
      refine CW.regionD (by kernel_rfl) hH3 ?_
      intro w6 hH7
      refine AN.take 0 rfl rfl (by kernel_rfl) (by kernel_rfl) (by kernel_rfl) (hH7.sub (List.Sublist.refl _)) (fun w hS => run_move e0_3) ?_
      refine AN.take 1 rfl rfl (by kernel_rfl) (by kernel_rfl) (by kernel_rfl) (hH7.sub (List.Sublist.refl _)) (fun w hS => run_move e5_3) ?_
      refine AN.take 2 rfl rfl (by kernel_rfl) (by kernel_rfl) (by kernel_rfl) (hH7.sub (List.Sublist.refl _)) (fun w hS => run_indexAddrS (ha.hp hS) Try.underlying37 Try.sizeOf3 rfl rfl (by omega)) ?_
      refine AN.take 3 rfl rfl (by kernel_rfl) (by kernel_rfl) (by kernel_rfl) (hH7.sub (List.Sublist.refl _)) (fun w hS => run_ld Try.underlying3 rfl rfl ((ha.hp hS).cell _ _ (map_at (by omega)))) ?_
      refine AN.take 4 rfl rfl (by kernel_rfl) (by kernel_rfl) (by kernel_rfl) (hH7.sub (List.Sublist.refl _)) (fun w hS => run_move e1_3) ?_
      refine AN.take 5 rfl rfl (by kernel_rfl) (by kernel_rfl) (by kernel_rfl) (hH7.sub (List.Sublist.refl _)) (fun w hS => run_move e5_3) ?_
      refine AN.take 6 rfl rfl (by kernel_rfl) (by kernel_rfl) (by kernel_rfl) (hH7.sub (List.Sublist.refl _)) (fun w hS => run_indexAddrS (hb.hp hS) Try.underlying37 Try.sizeOf3 rfl rfl (by omega)) ?_
      refine AN.take 7 rfl rfl (by kernel_rfl) (by kernel_rfl) (by kernel_rfl) (hH7.sub (List.Sublist.refl _)) (fun w hS => run_ld Try.underlying3 rfl rfl ((hb.hp hS).cell _ _ (map_at (by omega)))) ?_
      refine AN.take 8 rfl rfl (by kernel_rfl) (by kernel_rfl) (by kernel_rfl) (hH7.sub (List.Sublist.refl _)) (fun w hS => run_neq rfl rfl) ?_
      refine AN.done (by kernel_rfl) ?_
      refine CW.condP rfl (fun h9 => ?_) (fun h9 => ?_)
      · refine CW.seq ?_
        refine CW.region ?_
        refine RL.val rfl (run_assign (v := B false) rfl) ?_
        refine RL.nil ?_
        refine CW.ret ?_
        refine outP1 Try.results22 (congrArg B ?_) hH7.below
        (exact (decide_eq_false fun h => absurd (congrArg (fun z : List Int => z.getD k.toNat 0) h) ‹a.getD k.toNat 0 ≠ b.getD k.toNat 0›).symm)
      · refine CW.skip ?_
        refine CW.region ?_
        refine RL.val rfl (run_move e5_3) ?_
        refine RL.val rfl (run_add rfl rfl (by omega)) ?_
        refine RL.val rfl (run_assign (v := I _) rfl) ?_
        refine RL.nil ?_
        refine ⟨k + 1, ?_, (((((((((((((((fr3.u rfl).u rfl).u rfl).u rfl).u rfl).u rfl).u rfl).u rfl).u rfl).u rfl).u rfl).u rfl).u rfl).u rfl).u rfl).u rfl, hH7, (congrArg I (by rfl)), ?_, ?_, ?_⟩
        · ((try dsimp only); omega)
        · omega
        · omega
        · exact fun j x y => if e : j = k then e ▸ Decidable.of_not_not ‹¬ ¬ a.getD k.toNat 0 = b.getD k.toNat 0› else hf j x (by omega)
    · refine CW.exit (id := 0) rfl ?_
      refine CW.seq ?_
      refine CW.region ?_
      refine RL.val rfl (run_assign (v := B true) rfl) ?_
      refine RL.nil ?_
      refine CW.ret ?_
      refine outP1 Try.results22 (congrArg B ?_) hH3.below
      (exact (decide_eq_true (ext_getD hab fun j x y => hf j x (by omega))).symm)
theorem c_clearanceref03_Points (r : Rl) (w : World) : Calls Try.prog 32 #[.agg (relC r)] w (Pure (I (pts r)) w) := by
  refine enter Try.func32 rfl Try.ntmps32 rfl ?_
  have hH := Hp.start w
  refine CW.seq ?_
  refine CW.region ?_
  refine RL.new rfl hH (f := fun b => (.pointer (some ⟨b, 0, none⟩))) (run_box (v := .agg _) rfl) ?_
  intro b3 w1 hH2
  refine RL.val rfl (run_assign (v := I 0) rfl) ?_
  refine RL.nil ?_
  refine CW.seq ?_
  refine CW.seq ?_
  refine CW.region ?_
  refine RL.val rfl (run_fieldAddr Try.underlying31 rfl (off := 0) rfl Try.sizeOf3 (by decide) rfl) ?_
  refine RL.val rfl (run_ld Try.underlying3 rfl rfl (hH2.cell (i := 0) rfl (relC_N _))) ?_
  refine RL.val rfl (run_lss rfl rfl) ?_
  refine RL.nil ?_
  refine CW.condP rfl (fun h5 => ?_) (fun h5 => ?_)
  · refine CW.seq ?_
    refine CW.region ?_
    refine RL.val rfl (run_assign (v := I 0) rfl) ?_
    refine RL.nil ?_
    refine CW.ret ?_
    refine outP1 Try.results32 (congrArg I ?_) hH2.below
    (unfold pts; omega)
  · refine CW.skip ?_
    refine CW.seq ?_
    refine CW.seq ?_
    refine CW.region ?_
    refine RL.val rfl (run_fieldAddr Try.underlying31 rfl (off := 0) rfl Try.sizeOf3 (by decide) rfl) ?_
    refine RL.val rfl (run_ld Try.underlying3 rfl rfl (hH2.cell (i := 0) rfl (relC_N _))) ?_
    refine RL.val rfl (run_gtr rfl rfl) ?_
    refine RL.nil ?_
    refine CW.condP rfl (fun h7 => ?_) (fun h7 => ?_)
    · refine CW.seq ?_
      refine CW.region ?_
      refine RL.val rfl (run_assign (v := I 64) rfl) ?_
      refine RL.nil ?_
      refine CW.ret ?_
      refine outP1 Try.results32 (congrArg I ?_) hH2.below
      (unfold pts; omega)
    · refine CW.skip ?_
      refine CW.seq ?_
      refine CW.region ?_
      refine RL.val rfl (run_fieldAddr Try.underlying31 rfl (off := 0) rfl Try.sizeOf3 (by decide) rfl) ?_
      refine RL.val rfl (run_ld Try.underlying3 rfl rfl (hH2.cell (i := 0) rfl (relC_N _))) ?_
      refine RL.val rfl (run_assign (v := I _) rfl) ?_
      refine RL.nil ?_
      refine CW.ret ?_
      refine outP1 Try.results32 (congrArg I ?_) hH2.below
      (unfold pts; omega)
theorem c_clearanceref03_Has (r : Rl) (i j : Int) (w : World) : Calls Try.prog 33 #[.agg (relC r), I i, I j] w (Pure (B (hasR r i j)) w) := by
  have hp := pts_bd r
  refine enter Try.func33 rfl Try.ntmps33 rfl ?_
  have hH := Hp.start w
  refine CW.seq ?_
  refine CW.region ?_
  refine RL.new rfl hH (f := fun b => (.pointer (some ⟨b, 0, none⟩))) (run_box (v := .agg _) rfl) ?_
  intro b3 w1 hH2
  refine RL.val rfl (run_assign (v := B false) rfl) ?_
  refine RL.nil ?_
  refine CW.seq ?_
  refine CW.region ?_
  refine RL.val rfl (run_ldRel Try.underlying31 rfl rfl rfl (hH2.blk (i := 0) rfl)) ?_
  refine RL.callP rfl hH2 (c_clearanceref03_Points _  _) (run_call1 Try.call32 rfl) ?_
  intro w4 hH5
  refine RL.val rfl (run_assign (v := I _) rfl) ?_
  refine RL.nil ?_
  refine CW.seq ?_
  refine CW.region ?_
  refine RL.val rfl (run_move (v := I _) rfl) ?_
  refine RL.val rfl (run_geq rfl rfl) ?_
  refine RL.val rfl (run_move (v := B _) rfl) ?_
  refine RL.splitP (dj := 12) rfl (fun h7 => ?_) (fun h7 => ?_)
  · refine RL.gT rfl (bT h7) ?_
    refine RL.val rfl (run_move (v := I _) rfl) ?_
    refine RL.gT rfl (bT h7) ?_
    refine RL.val rfl (run_geq rfl rfl) ?_
    refine RL.val rfl (run_pickT (bT h7) (v := B _) rfl) ?_
    refine RL.val rfl (run_move (v := B _) rfl) ?_
    refine RL.splitP (dj := 16) rfl (fun h9 => ?_) (fun h9 => ?_)
    · refine RL.gT rfl (bT h9) ?_
      refine RL.val rfl (run_move (v := I _) rfl) ?_
      refine RL.gT rfl (bT h9) ?_
      refine RL.val rfl (run_move (v := I _) rfl) ?_
      refine RL.gT rfl (bT h9) ?_
      refine RL.val rfl (run_lss rfl rfl) ?_
      refine RL.val rfl (run_pickT (bT h9) (v := B _) rfl) ?_
      refine RL.val rfl (run_move (v := B _) rfl) ?_
      refine RL.splitP (dj := 21) rfl (fun h11 => ?_) (fun h11 => ?_)
      · refine RL.gT rfl (bT h11) ?_
        refine RL.val rfl (run_move (v := I _) rfl) ?_
        refine RL.gT rfl (bT h11) ?_
        refine RL.val rfl (run_move (v := I _) rfl) ?_
        refine RL.gT rfl (bT h11) ?_
        refine RL.val rfl (run_lss rfl rfl) ?_
        refine RL.val rfl (run_pickT (bT h11) (v := B _) rfl) ?_
        refine RL.val rfl (run_move (v := B _) rfl) ?_
        refine RL.splitP (dj := 26) rfl (fun h13 => ?_) (fun h13 => ?_)
        · refine RL.gT rfl (bT h13) ?_
          refine RL.val rfl (run_move (v := I _) rfl) ?_
          refine RL.gT rfl (bT h13) ?_
          refine RL.val rfl (run_fieldAddr Try.underlying31 rfl (off := 1) rfl Try.sizeOf29 (by decide) rfl) ?_
          refine RL.gT rfl (bT h13) ?_
          refine RL.val rfl (run_indexAddrA Try.underlying29 Try.sizeOf28 rfl rfl (by omega)) ?_
          refine RL.gT rfl (bT h13) ?_
          refine RL.val rfl (run_ld Try.underlying28 rfl rfl (hH5.cell (i := 0) rfl (relC_up _ (by omega)))) ?_
          refine RL.gT rfl (bT h13) ?_
          refine RL.val rfl (run_move (v := I _) rfl) ?_
          refine RL.gT rfl (bT h13) ?_
          refine RL.val rfl (run_convIU Try.underlying3 Try.underlying33 rfl) ?_
          refine RL.gT rfl (bT h13) ?_
          refine RL.val rfl (run_shrU rfl rfl) ?_
          refine RL.gT rfl (bT h13) ?_
          refine RL.val rfl (run_remU rfl (b := 2#64) rfl (by decide)) ?_
          refine RL.gT rfl (bT h13) ?_
          refine RL.val rfl (run_eqlU rfl (b := 1#64) rfl) ?_
          refine RL.val rfl (run_pickT (bT h13) (v := B _) rfl) ?_
          refine RL.val rfl (run_assign (v := B _) rfl) ?_
          refine RL.nil ?_
          refine CW.ret ?_
          refine outP1 Try.results33 (congrArg B ?_) hH5.below
          exact has_ref (by omega) (by omega) (by omega) (by omega)
        · refine RL.gF rfl rfl (bF h13) rfl ?_
          refine RL.gF rfl rfl (bF h13) rfl ?_
          refine RL.gF rfl rfl (bF h13) rfl ?_
          refine RL.gF rfl rfl (bF h13) rfl ?_
          refine RL.gF rfl rfl (bF h13) rfl ?_
          refine RL.gF rfl rfl (bF h13) rfl ?_
          refine RL.gF rfl rfl (bF h13) rfl ?_
          refine RL.gF rfl rfl (bF h13) rfl ?_
          refine RL.gF rfl rfl (bF h13) rfl ?_
          refine RL.val rfl (run_pickF (bF h13) (v := B false) rfl) ?_
          refine RL.val rfl (run_assign (v := B _) rfl) ?_
          refine RL.nil ?_
          refine CW.ret ?_
          refine outP1 Try.results33 (congrArg B ?_) hH5.below
          exact (has_out (by omega)).symm
      · refine RL.gF rfl rfl (bF h11) rfl ?_
        refine RL.gF rfl rfl (bF h11) rfl ?_
        refine RL.gF rfl rfl (bF h11) rfl ?_
        refine RL.val rfl (run_pickF (bF h11) (v := B false) rfl) ?_
        refine RL.val rfl (run_move (v := B _) rfl) ?_
        refine RL.gF rfl rfl rfl rfl ?_
        refine RL.gF rfl rfl rfl rfl ?_
        refine RL.gF rfl rfl rfl rfl ?_
        refine RL.gF rfl rfl rfl rfl ?_
        refine RL.gF rfl rfl rfl rfl ?_
        refine RL.gF rfl rfl rfl rfl ?_
        refine RL.gF rfl rfl rfl rfl ?_
        refine RL.gF rfl rfl rfl rfl ?_
        refine RL.gF rfl rfl rfl rfl ?_
        refine RL.val rfl (run_pickF rfl (v := B false) rfl) ?_
        refine RL.val rfl (run_assign (v := B _) rfl) ?_
        refine RL.nil ?_
        refine CW.ret ?_
        refine outP1 Try.results33 (congrArg B ?_) hH5.below
        exact (has_out (by omega)).symm
    · refine RL.gF rfl rfl (bF h9) rfl ?_
      refine RL.gF rfl rfl (bF h9) rfl ?_
      refine RL.gF rfl rfl (bF h9) rfl ?_
      refine RL.val rfl (run_pickF (bF h9) (v := B false) rfl) ?_
      refine RL.val rfl (run_move (v := B _) rfl) ?_
      refine RL.gF rfl rfl rfl rfl ?_
      refine RL.gF rfl rfl rfl rfl ?_
      refine RL.gF rfl rfl rfl rfl ?_
      refine RL.val rfl (run_pickF rfl (v := B false) rfl) ?_
      refine RL.val rfl (run_move (v := B _) rfl) ?_
      refine RL.gF rfl rfl rfl rfl ?_
      refine RL.gF rfl rfl rfl rfl ?_
      refine RL.gF rfl rfl rfl rfl ?_
      refine RL.gF rfl rfl rfl rfl ?_
      refine RL.gF rfl rfl rfl rfl ?_
      refine RL.gF rfl rfl rfl rfl ?_
      refine RL.gF rfl rfl rfl rfl ?_
      refine RL.gF rfl rfl rfl rfl ?_
      refine RL.gF rfl rfl rfl rfl ?_
      refine RL.val rfl (run_pickF rfl (v := B false) rfl) ?_
      refine RL.val rfl (run_assign (v := B _) rfl) ?_
      refine RL.nil ?_
      refine CW.ret ?_
      refine outP1 Try.results33 (congrArg B ?_) hH5.below
      exact (has_out (by omega)).symm
  · refine RL.gF rfl rfl (bF h7) rfl ?_
    refine RL.gF rfl rfl (bF h7) rfl ?_
    refine RL.val rfl (run_pickF (bF h7) (v := B false) rfl) ?_
    refine RL.val rfl (run_move (v := B _) rfl) ?_
    refine RL.gF rfl rfl rfl rfl ?_
    refine RL.gF rfl rfl rfl rfl ?_
    refine RL.gF rfl rfl rfl rfl ?_
    refine RL.val rfl (run_pickF rfl (v := B false) rfl) ?_
    refine RL.val rfl (run_move (v := B _) rfl) ?_
    refine RL.gF rfl rfl rfl rfl ?_
    refine RL.gF rfl rfl rfl rfl ?_
    refine RL.gF rfl rfl rfl rfl ?_
    refine RL.val rfl (run_pickF rfl (v := B false) rfl) ?_
    refine RL.val rfl (run_move (v := B _) rfl) ?_
    refine RL.gF rfl rfl rfl rfl ?_
    refine RL.gF rfl rfl rfl rfl ?_
    refine RL.gF rfl rfl rfl rfl ?_
    refine RL.gF rfl rfl rfl rfl ?_
    refine RL.gF rfl rfl rfl rfl ?_
    refine RL.gF rfl rfl rfl rfl ?_
    refine RL.gF rfl rfl rfl rfl ?_
    refine RL.gF rfl rfl rfl rfl ?_
    refine RL.gF rfl rfl rfl rfl ?_
    refine RL.val rfl (run_pickF rfl (v := B false) rfl) ?_
    refine RL.val rfl (run_assign (v := B _) rfl) ?_
    refine RL.nil ?_
    refine CW.ret ?_
    refine outP1 Try.results33 (congrArg B ?_) hH5.below
    exact (has_out (by omega)).symm
theorem c_clearanceref03_In (v : Value) (l : List Int) (x : Int) (w : World) (hs : Sl w v 1 l.length (l.map I)) : Calls Try.prog 12 #[v, I x] w (Pure (B (l.contains x)) w) := by
  have hm := hs.small
  unfold maxLen at hm
  refine enter Try.func12 rfl Try.ntmps12 rfl ?_
  have hH := Hp.start w
  refine CW.seq ?_
  refine CW.region ?_
  refine RL.val rfl (run_assign (v := B false) rfl) ?_
  refine RL.nil ?_
  refine CW.seq ?_
  refine CW.seq ?_
  refine CW.region ?_
  refine RL.val rfl (run_assign (v := I 0) rfl) ?_
  refine RL.nil ?_
  refine CW.block ?_
  refine CW.loop (G := (Int)) (fun (k : Int) s' w' => (Fr [4, 5, 6, 7, 8, 9, 10, 11, 12, 13, 14, 15, 16, 17] _ s') ∧ (Hp w w' _) ∧ (s' 5 = I k) ∧ (0 ≤ k) ∧ (k ≤ l.length) ∧ (∀ j : Int, 0 ≤ j → j < k → l.getD j.toNat 0 ≠ x)) (fun (k : Int) => (l.length - k).toNat) (0) ⟨Fr.refl _ _, hH, rfl, (by omega), (by omega), fun j a b => absurd b (by omega)⟩ ?_
  rintro k sg1 w1 ⟨fr1, hH1, e5_1, h0, hk, hf⟩
  have e0_1 := (fr1 0 rfl).trans (by conv => lhs; whnf)
  have e1_1 : sg1 1 = I _ := (fr1 1 rfl).trans rfl
  refine CW.seq ?_
  refine CW.seq ?_
  refine CW.region ?_
  refine RL.val rfl (run_move e5_1) ?_
  refine RL.val rfl (run_move e0_1) ?_
  refine RL.val rfl (run_lenSl (hs.hp hH1) rfl Try.underlying37 rfl) ?_
  refine RL.val rfl (run_lss rfl rfl) ?_
  refine RL.nil ?_
  refine CW.condP rfl (fun h3 => ?_) (fun h3 => ?_)
  · refine CW.skip ?_
    refine CW.seq ?_
    refine CW.block ?_
    refine CW.seq ?_
    refine CW.region ?_
    refine RL.val rfl (run_move e0_1) ?_
    refine RL.val rfl (run_move e5_1) ?_
    refine RL.val rfl (run_indexAddrS (hs.hp hH1) Try.underlying37 Try.sizeOf3 rfl rfl (by omega)) ?_
    refine RL.val rfl (run_ld Try.underlying3 rfl rfl ((hs.hp hH1).cell _ _ (map_at (by omega)))) ?_
    refine RL.val rfl (run_move e1_1) ?_
    refine RL.val rfl (run_eql rfl rfl) ?_
    refine RL.nil ?_
    refine CW.condP rfl (fun h5 => ?_) (fun h5 => ?_)
    · refine CW.seq ?_
      refine CW.region ?_
      refine RL.val rfl (run_assign (v := B true) rfl) ?_
      refine RL.nil ?_
      refine CW.ret ?_
      refine outP1 Try.results12 (congrArg B ?_) hH1.below
      (exact (in_yes h0 ‹_› ‹_›).symm)
    · refine CW.skip ?_
      refine CW.region ?_
      refine RL.val rfl (run_move e5_1) ?_
      refine RL.val rfl (run_add rfl rfl (by omega)) ?_
      refine RL.val rfl (run_assign (v := I _) rfl) ?_
      refine RL.nil ?_
      refine ⟨k + 1, ?_, ((((((((((((fr1.u rfl).u rfl).u rfl).u rfl).u rfl).u rfl).u rfl).u rfl).u rfl).u rfl).u rfl).u rfl).u rfl, hH1, (congrArg I (by rfl)), ?_, ?_, ?_⟩
      · ((try dsimp only); omega)
      · omega
      · omega
      · exact fun j a b => if e : j = k then e ▸ ‹¬ l.getD k.toNat 0 = x› else hf j a (by omega)
  · refine CW.exit (id := 0) rfl ?_
    refine CW.seq ?_
    refine CW.region ?_
    refine RL.val rfl (run_assign (v := B false) rfl) ?_
    refine RL.nil ?_
    refine CW.ret ?_
    refine outP1 Try.results12 (congrArg B ?_) hH1.below
    (exact (in_no fun j a b => hf j a (by omega)).symm)
theorem c_clearanceref03_Reach (r : Rl) (i : Int) (w : World) : Calls Try.prog 13 #[.agg (relC r), I i] w (PureRow 3 1 (reachL r i).length ((reachL r i).map I) w) := by
  have hp := pts_bd r
  refine enter Try.func13 rfl Try.ntmps13 rfl ?_
  have hH := Hp.start w
  refine CW.seq ?_
  refine CW.region ?_
  refine RL.new rfl hH (f := fun b => (.pointer (some ⟨b, 0, none⟩))) (run_box (v := .agg _) rfl) ?_
  intro b3 w1 hH2
  refine RL.val rfl (run_assign (v := .slice none 0 0) rfl) ?_
  have hH4 := hH2.nilRow 3 1
  refine RL.nil ?_
  refine CW.seq ?_
  refine CW.seq ?_
  refine CW.region ?_
  refine RL.val rfl (run_move (v := I _) rfl) ?_
  refine RL.val rfl (run_lss rfl rfl) ?_
  refine RL.val rfl (run_move (v := B _) rfl) ?_
  refine RL.splitP (dj := 10) rfl (fun h6 => ?_) (fun h6 => ?_)
  · refine RL.gF rfl rfl (bT h6) rfl ?_
    refine RL.gF rfl rfl (bT h6) rfl ?_
    refine RL.gF rfl rfl (bT h6) rfl ?_
    refine RL.gF rfl rfl (bT h6) rfl ?_
    refine RL.val rfl (run_pickT (bT h6) (v := B true) rfl) ?_
    refine RL.nil ?_
    refine CW.condT rfl ?_
    refine CW.seq ?_
    refine CW.region ?_
    refine RL.val rfl (run_assign (v := .slice none 0 0) rfl) ?_
    have hH7 := hH4.nilRow 3 1
    refine RL.nil ?_
    refine CW.ret ?_
    exact outR Try.results13 rfl hH7 (i := 0) rfl (by rw [reach_nil (by omega)]; rfl) (by rw [reach_nil (by omega)]; rfl)
  · refine RL.gT rfl (bF h6) ?_
    refine RL.val rfl (run_move (v := I _) rfl) ?_
    refine RL.gT rfl (bF h6) ?_
    refine RL.val rfl (run_ldRel Try.underlying31 rfl rfl rfl (hH4.blk (i := 1) rfl)) ?_
    refine RL.gT rfl (bF h6) ?_
    refine RL.callP rfl hH4 (c_clearanceref03_Points _  _) (run_call1 Try.call32 rfl) ?_
    intro w8 hH9
    refine RL.gT rfl (bF h6) ?_
    refine RL.val rfl (run_geq rfl rfl) ?_
    refine RL.val rfl (run_pickF (bF h6) (v := B _) rfl) ?_
    refine RL.nil ?_
    refine CW.condP rfl (fun h11 => ?_) (fun h11 => ?_)
    · refine CW.seq ?_
      refine CW.region ?_
      refine RL.val rfl (run_assign (v := .slice none 0 0) rfl) ?_
      have hH12 := hH9.nilRow 3 1
      refine RL.nil ?_
      refine CW.ret ?_
      exact outR Try.results13 rfl hH12 (i := 0) rfl (by rw [reach_nil (by omega)]; rfl) (by rw [reach_nil (by omega)]; rfl)
    · refine CW.skip ?_
      refine CW.seq ?_
      refine CW.region ?_
      refine RL.val rfl (run_move (v := I _) rfl) ?_
      refine RL.new rfl hH9 (f := fun b => (.slice (some ⟨b, 0, none⟩) 1 1)) (run_mkL Try.underlying37 rfl rfl (sz := 1) (vs := [I _]) rfl rfl (by decide) (by decide) rfl rfl) ?_
      intro b15 w13 hH14
      (try simp only [List.flatMap_cons, List.flatMap_nil, clI, clB, clS, clP, clL, clA, List.append_nil, List.cons_append, List.nil_append] at hH14)
      have hH16 := hH14.blkRow 1 1 rfl (by decide)
      refine RL.val rfl (run_assign (by conv => lhs; whnf)) ?_
      refine RL.nil ?_
      refine CW.seq ?_
      refine CW.seq ?_
      refine CW.region ?_
      refine RL.val rfl (run_assign (v := I 0) rfl) ?_
      refine RL.nil ?_
      refine CW.block ?_
      refine CW.loop (G := (Int) × (List Int) × (Value)) (fun (⟨a, l, v5⟩ : (Int) × (List Int) × (Value)) s' w' => (Fr [5, 6, 7, 18, 19, 20, 21, 22, 23, 24, 25, 26, 27, 28, 29, 30, 31, 32, 33, 34, 35, 36, 37, 38, 39, 40, 41, 42, 43, 44, 45, 46] _ s') ∧ (Hp w w' (.row v5 3 1 (l.length) (l.map I) :: _)) ∧ (s' 5 = v5) ∧ (s' 6 = I a) ∧ (0 ≤ a) ∧ (a ≤ l.length) ∧ (Okl r l) ∧ (bfs r (65 - a.toNat) a.toNat l = reachL r i)) (fun (⟨a, l, v5⟩ : (Int) × (List Int) × (Value)) => ((65 : Int) - a).toNat) ((0, [i], (.slice (some ⟨b15, 0, none⟩) 1 1 : Value))) ⟨Fr.refl _ _, hH16, rfl, rfl, (by omega), (by simp), Okl.one (by omega), (by rw [reachL, if_pos (isP_iff.2 (by omega))]; rfl)⟩ ?_
      rintro ⟨a, l, v5⟩ sg17 w17 ⟨fr17, hH17, e5_17, e6_17, a0, a1, hok, hl⟩
      have e2_17 : sg17 2 = .pointer (some ⟨_, _, none⟩) := (fr17 2 rfl).trans rfl
      have e4_17 := (fr17 4 rfl).trans (by conv => lhs; whnf)
      refine CW.seq ?_
      refine CW.seq ?_
      refine CW.region ?_
      refine RL.val rfl (run_move e6_17) ?_
      refine RL.val rfl (run_move e5_17) ?_
      refine RL.val rfl (run_lenSl (hH17.sl (i := 0) rfl) rfl Try.underlying37 rfl) ?_
      refine RL.val rfl (run_lss rfl rfl) ?_
      refine RL.nil ?_
      refine CW.condP rfl (fun h19 => ?_) (fun h19 => ?_)
      · refine CW.skip ?_
        refine CW.seq ?_
        refine CW.block ?_
        refine CW.seq ?_
        refine CW.region ?_
        refine RL.val rfl (run_assign (v := I 0) rfl) ?_
        refine RL.nil ?_
        refine CW.block ?_
        refine CW.loop (G := (Int) × (List Int) × (Value)) (fun (⟨b, l2, v5⟩ : (Int) × (List Int) × (Value)) s' w' => (Fr [5, 7, 24, 25, 26, 27, 28, 29, 30, 31, 32, 33, 34, 35, 36, 37, 38, 39, 40, 41, 42, 43, 44, 45, 46] _ s') ∧ (Hp w w' (.row v5 3 1 (l2.length) (l2.map I) :: _)) ∧ (s' 5 = v5) ∧ (s' 7 = I b) ∧ (0 ≤ b) ∧ (b ≤ pts r) ∧ (l2 = scan r (l.getD a.toNat 0) l b.toNat) ∧ (Okl r l2) ∧ (l.length ≤ l2.length) ∧ (l2.getD a.toNat 0 = l.getD a.toNat 0)) (fun (⟨b, l2, v5⟩ : (Int) × (List Int) × (Value)) => (pts r - b).toNat) ((0, l, (v5 : Value))) ⟨Fr.refl _ _, hH17, e5_17, rfl, (by omega), (by omega), rfl, hok, Nat.le_refl _, rfl⟩ ?_
        rintro ⟨b, l2, v5⟩ sg20 w20 ⟨fr20, hH20, e5_20, e7_20, b0, b1, h2, hok2, hle, hget⟩
        have e2_20 := (fr20 2 rfl).trans e2_17
        have e4_20 := (fr20 4 rfl).trans e4_17
        have e6_20 := (fr20 6 rfl).trans e6_17
        have e18_20 : sg20 18 = I _ := (fr20 18 rfl).trans rfl
        have e19_20 := (fr20 19 rfl).trans (by conv => lhs; whnf)
        have e20_20 : sg20 20 = I _ := (fr20 20 rfl).trans rfl
        have e21_20 : sg20 21 = B _ := (fr20 21 rfl).trans rfl
        refine CW.seq ?_
        refine CW.seq ?_
        refine CW.region ?_
        refine RL.val rfl (run_move e7_20) ?_
        refine RL.val rfl (run_ldRel Try.underlying31 rfl rfl e2_20 (hH20.blk (i := 2) rfl)) ?_
        refine RL.callP rfl hH20 (c_clearanceref03_Points _  _) (run_call1 Try.call32 rfl) ?_
        intro w21 hH22
        refine RL.val rfl (run_lss rfl rfl) ?_
        refine RL.nil ?_
        refine CW.condP rfl (fun h24 => ?_) (fun h24 => ?_)
        · refine CW.skip ?_
          refine CW.seq ?_
          refine CW.block ?_
          refine CW.seq ?_
          refine CW.regionD (by kernel_rfl) hH22 ?_
          intro w25 hH26
          refine AN.take 0 rfl rfl (by kernel_rfl) (by kernel_rfl) (by kernel_rfl) (hH26.sub (List.Sublist.refl _)) (fun w hS => run_ldRel Try.underlying31 rfl rfl e2_20 (hS.blk (i := 2) rfl)) ?_
          refine AN.take 1 rfl rfl (by kernel_rfl) (by kernel_rfl) (by kernel_rfl) (hH26.sub (List.Sublist.refl _)) (fun w hS => run_move e5_20) ?_
          refine AN.take 2 rfl rfl (by kernel_rfl) (by kernel_rfl) (by kernel_rfl) (hH26.sub (List.Sublist.refl _)) (fun w hS => run_move e6_20) ?_
          refine AN.take 3 rfl rfl (by kernel_rfl) (by kernel_rfl) (by kernel_rfl) (hH26.sub (List.Sublist.refl _)) (fun w hS => run_indexAddrS (hS.sl (i := 0) rfl) Try.underlying37 Try.sizeOf3 rfl rfl (by omega)) ?_
          refine AN.take 4 rfl rfl (by kernel_rfl) (by kernel_rfl) (by kernel_rfl) (hH26.sub (List.Sublist.refl _)) (fun w hS => run_ld Try.underlying3 rfl rfl ((hS.sl (i := 0) rfl).cell _ _ (map_at (by omega)))) ?_
          refine AN.take 5 rfl rfl (by kernel_rfl) (by kernel_rfl) (by kernel_rfl) (hH26.sub (List.Sublist.refl _)) (fun w hS => run_move e7_20) ?_
          refine AN.one 6 (by kernel_rfl) ?_
          refine AO.callP rfl gnone rfl hH26 (List.Sublist.refl _) (c_clearanceref03_Has r (l2.getD a.toNat 0) b _) (run_call3 Try.call33 rfl rfl rfl) ?_
          intro w27 hH28
          refine AN.take 7 rfl rfl (by kernel_rfl) (by kernel_rfl) (by kernel_rfl) (hH28.sub (List.Sublist.refl _)) (fun w hS => run_move (v := B _) rfl) ?_
          refine AN.split (dj := 37) rfl (fun h30 => ?_) (fun h30 => ?_)
          · refine AN.takeG 8 rfl rfl (bR (c := true) h30) rfl (by kernel_rfl) (by kernel_rfl) (by kernel_rfl) (hH28.sub (List.Sublist.refl _)) (fun w hS => run_move e5_20) ?_
            refine AN.takeG 9 rfl rfl (bR (c := true) h30) rfl (by kernel_rfl) (by kernel_rfl) (by kernel_rfl) (hH28.sub (List.Sublist.refl _)) (fun w hS => run_move e7_20) ?_
            refine AN.one 10 (by kernel_rfl) ?_
            refine AO.callP rfl (gsome rfl (bR (c := true) h30)) rfl hH28 (List.Sublist.refl _) (c_clearanceref03_In _ _ _  _ (hH28.sl (i := 0) rfl)) (run_call2 Try.call12 rfl rfl) ?_
            intro w31 hH32
            refine AN.takeG 11 rfl rfl (bR (c := true) h30) rfl (by kernel_rfl) (by kernel_rfl) (by kernel_rfl) (hH32.sub (List.Sublist.refl _)) (fun w hS => run_not rfl) ?_
            refine AN.take 12 rfl rfl (by kernel_rfl) (by kernel_rfl) (by kernel_rfl) (hH32.sub (List.Sublist.refl _)) (fun w hS => run_pickT (bR (c := true) h30) (v := B _) rfl) ?_
            refine AN.done (by kernel_rfl) ?_
            refine CW.cond rfl (fun h35 => ?_) (fun h35 => ?_)
            · refine CW.region ?_
              refine RL.val rfl (run_move e5_20) ?_
              refine RL.val rfl (run_move e7_20) ?_
              refine RL.new rfl hH32 (f := fun b => (.slice (some ⟨b, 0, none⟩) 1 1)) (run_mkL Try.underlying37 rfl rfl (sz := 1) (vs := [I _]) rfl rfl (by decide) (by decide) rfl rfl) ?_
              intro b38 w36 hH37
              (try simp only [List.flatMap_cons, List.flatMap_nil, clI, clB, clS, clP, clL, clA, List.append_nil, List.cons_append, List.nil_append] at hH37)
              refine RL.app rfl hH37 (i := 1) rfl (hH37.slBlk (i := 0) (n := 1) (sz := 1) rfl rfl (by decide)) rfl rfl Try.underlying37 rfl rfl (size := 1) (bytes := 8) rfl rfl rfl (by decide) (by simp [Value.oneCell']) (by have := hok2.len; omega) (by have := hok2.len; simp only [maxLen]; omega) ?_
              intro v39 w40 hH41
              simp only [List.set_cons_zero, List.set_cons_succ] at hH41
              refine RL.val rfl (run_assign (by conv => lhs; whnf)) ?_
              refine RL.nil ?_
              refine CW.region ?_
              refine RL.val rfl (run_move e7_20) ?_
              refine RL.val rfl (run_add rfl rfl (by omega)) ?_
              refine RL.val rfl (run_assign (v := I _) rfl) ?_
              refine RL.nil ?_
              refine ⟨(b + 1, l2 ++ [b], v39), ?_, ((((((((((((((((((((((((fr20.u rfl).u rfl).u rfl).u rfl).u rfl).u rfl).u rfl).u rfl).u rfl).u rfl).u rfl).u rfl).u rfl).u rfl).u rfl).u rfl).u rfl).u rfl).u rfl).u rfl).u rfl).u rfl).u rfl).u rfl).u rfl, (Hp.conv (hH41.sub (.cons _ (List.Sublist.refl _))) (by simp)), rfl, (congrArg I (by rfl)), ?_, ?_, ?_, ?_, ?_, ?_⟩
              · ((try dsimp only); omega)
              · omega
              · omega
              · rw [hget] at *; ((rw [h2] at *; exact scan_yes b0 ‹_› (nt ‹_›)))
              · exact hok2.add ⟨b0, ‹_›⟩ (nt ‹_›)
              · (simp; omega)
              · (rw [← hget, List.getD_eq_getElem?_getD, List.getD_eq_getElem?_getD, List.getElem?_append_left (by omega)])
            · refine CW.skip ?_
              refine CW.region ?_
              refine RL.val rfl (run_move e7_20) ?_
              refine RL.val rfl (run_add rfl rfl (by omega)) ?_
              refine RL.val rfl (run_assign (v := I _) rfl) ?_
              refine RL.nil ?_
              refine ⟨(b + 1, l2, v5), ?_, (((((((((((((((((((fr20.u rfl).u rfl).u rfl).u rfl).u rfl).u rfl).u rfl).u rfl).u rfl).u rfl).u rfl).u rfl).u rfl).u rfl).u rfl).u rfl).u rfl).u rfl).u rfl).u rfl, (Hp.conv hH32 (by rfl)), e5_20, (congrArg I (by rfl)), ?_, ?_, ?_, ?_, ?_, ?_⟩
              · ((try dsimp only); omega)
              · omega
              · omega
              · rw [hget] at *; ((rw [h2] at *; exact scan_no2 b0 (nf ‹_›)))
              · exact hok2
              · exact hle
              · exact hget
          · refine AN.skipG 8 rfl rfl (bR (c := false) h30) rfl rfl (by kernel_rfl) (by kernel_rfl) (by kernel_rfl) (hH28.sub (List.Sublist.refl _)) ?_
            refine AN.skipG 9 rfl rfl (bR (c := false) h30) rfl rfl (by kernel_rfl) (by kernel_rfl) (by kernel_rfl) (hH28.sub (List.Sublist.refl _)) ?_
            refine AN.skipG 10 rfl rfl (bR (c := false) h30) rfl rfl (by kernel_rfl) (by kernel_rfl) (by kernel_rfl) (hH28.sub (List.Sublist.refl _)) ?_
            refine AN.skipG 11 rfl rfl (bR (c := false) h30) rfl rfl (by kernel_rfl) (by kernel_rfl) (by kernel_rfl) (hH28.sub (List.Sublist.refl _)) ?_
            refine AN.take 12 rfl rfl (by kernel_rfl) (by kernel_rfl) (by kernel_rfl) (hH28.sub (List.Sublist.refl _)) (fun w hS => run_pickF (bR (c := false) h30) (v := B false) rfl) ?_
            refine AN.done (by kernel_rfl) ?_
            refine CW.condF rfl ?_
            refine CW.skip ?_
            refine CW.region ?_
            refine RL.val rfl (run_move e7_20) ?_
            refine RL.val rfl (run_add rfl rfl (by omega)) ?_
            refine RL.val rfl (run_assign (v := I _) rfl) ?_
            refine RL.nil ?_
            refine ⟨(b + 1, l2, v5), ?_, (((((((((((((((((((fr20.u rfl).u rfl).u rfl).u rfl).u rfl).u rfl).u rfl).u rfl).u rfl).u rfl).u rfl).u rfl).u rfl).u rfl).u rfl).u rfl).u rfl).u rfl).u rfl).u rfl, (Hp.conv hH28 (by rfl)), e5_20, (congrArg I (by rfl)), ?_, ?_, ?_, ?_, ?_, ?_⟩
            · ((try dsimp only); omega)
            · omega
            · omega
            · rw [hget] at *; ((rw [h2] at *; exact scan_no1 b0 ‹_›))
            · exact hok2
            · exact hle
            · exact hget
        · refine CW.exit (id := 2) rfl ?_
          refine CW.region ?_
          refine RL.val rfl (run_move e6_20) ?_
          refine RL.val rfl (run_add rfl rfl (by have := hok.len; omega)) ?_
          refine RL.val rfl (run_assign (v := I _) rfl) ?_
          refine RL.nil ?_
          refine ⟨(a + 1, l2, v5), ?_, (((((((((((((fr17.u rfl).u rfl).u rfl).u rfl).u rfl).t fr20 rfl)).u rfl).u rfl).u rfl).u rfl).u rfl).u rfl).u rfl, (Hp.conv hH22 (by rfl)), e5_20, (congrArg I (by rfl)), ?_, ?_, ?_, ?_⟩
          · have := hok.len; (try dsimp only); omega
          · omega
          · omega
          · exact hok2
          · (rw [h2, show b = pts r by omega, ← bfs_step a0 ‹_› hok.len]; exact hl)
      · refine CW.exit (id := 0) rfl ?_
        refine CW.seq ?_
        refine CW.region ?_
        refine RL.val rfl (run_move e5_17) ?_
        refine RL.val rfl (run_assign (by conv => lhs; whnf)) ?_
        refine RL.nil ?_
        refine CW.ret ?_
        exact outR Try.results13 rfl hH17 (i := 0) rfl (by rw [← hl, bfs_end a0 ‹_›]) (by rw [← hl, bfs_end a0 ‹_›])
theorem c_cells_Cells_Len (F : Nat) (vW vU vT : Value) (cnt : Int) (W : List (BitVec 64)) (w : World) (hb : w.heap[F]? = some (.cells #[vW, vU, vT, I cnt] 65 (0, 0))) (hW : Sl w vW 1 W.length (W.map U)) : Calls Try.prog 37 #[.pointer (some ⟨F, 0, none⟩)] w (Pure (I W.length) w) := by
  refine enter Try.func37 rfl Try.ntmps37 rfl ?_
  have hH := Hp.start w
  refine CW.seq ?_
  refine CW.region ?_
  refine RL.val rfl (run_assign (v := I 0) rfl) ?_
  refine RL.nil ?_
  refine CW.seq ?_
  refine CW.seq ?_
  refine CW.region ?_
  refine RL.val rfl (run_move (v := .pointer (some ⟨_, _, none⟩)) rfl) ?_
  refine RL.val rfl (run_eqlP0 Try.underlying78 rfl rfl) ?_
  refine RL.nil ?_
  refine CW.condF rfl ?_
  refine CW.skip ?_
  refine CW.seq ?_
  refine CW.region ?_
  refine RL.val rfl (run_move (v := .pointer (some ⟨_, _, none⟩)) rfl) ?_
  refine RL.val rfl (run_nilCheck rfl) ?_
  refine RL.val rfl (run_fieldAddr Try.underlying61 rfl (off := 0) rfl Try.sizeOf58 (by decide) rfl) ?_
  refine RL.val rfl (run_ld Try.underlying58 rfl rfl (hH.extCell hb rfl)) ?_
  refine RL.val rfl (run_lenSl (hW.hp hH) rfl Try.underlying58 rfl) ?_
  refine RL.val rfl (run_assign (v := I _) rfl) ?_
  refine RL.nil ?_
  refine CW.ret ?_
  refine outP1 Try.results37 (congrArg I ?_) hH.below
  rfl
theorem c_cells_Cells_is (F : Nat) (vW vU vT : Value) (cnt : Int) (W : List (BitVec 64)) (i : Int) (w : World) (hb : w.heap[F]? = some (.cells #[vW, vU, vT, I cnt] 65 (0, 0))) (hW : Sl w vW 1 W.length (W.map U)) : Calls Try.prog 46 #[.pointer (some ⟨F, 0, none⟩), I i] w (Pure (B (decide (0 ≤ i ∧ i < W.length))) w) := by
  refine enter Try.func46 rfl Try.ntmps46 rfl ?_
  have hH := Hp.start w
  refine CW.seq ?_
  refine CW.region ?_
  refine RL.val rfl (run_assign (v := B false) rfl) ?_
  refine RL.nil ?_
  refine CW.seq ?_
  refine CW.region ?_
  refine RL.val rfl (run_move (v := I _) rfl) ?_
  refine RL.val rfl (run_geq rfl rfl) ?_
  refine RL.val rfl (run_move (v := B _) rfl) ?_
  refine RL.splitP (dj := 7) rfl (fun h2 => ?_) (fun h2 => ?_)
  · refine RL.gT rfl (bT h2) ?_
    refine RL.val rfl (run_move (v := I _) rfl) ?_
    refine RL.gT rfl (bT h2) ?_
    refine RL.val rfl (run_move (v := .pointer (some ⟨_, _, none⟩)) rfl) ?_
    refine RL.gT rfl (bT h2) ?_
    refine RL.callP rfl hH (c_cells_Cells_Len _ _ _ _ _ _ _ (hH.ext hb) (hW.hp hH)) (run_call1 Try.call37 rfl) ?_
    intro w3 hH4
    refine RL.gT rfl (bT h2) ?_
    refine RL.val rfl (run_lss rfl rfl) ?_
    refine RL.val rfl (run_pickT (bT h2) (v := B _) rfl) ?_
    refine RL.val rfl (run_assign (v := B _) rfl) ?_
    refine RL.nil ?_
    refine CW.ret ?_
    refine outP1 Try.results46 (congrArg B ?_) hH4.below
    (simp; omega)
  · refine RL.gF rfl rfl (bF h2) rfl ?_
    refine RL.gF rfl rfl (bF h2) rfl ?_
    refine RL.gF rfl rfl (bF h2) rfl ?_
    refine RL.gF rfl rfl (bF h2) rfl ?_
    refine RL.val rfl (run_pickF (bF h2) (v := B false) rfl) ?_
    refine RL.val rfl (run_assign (v := B _) rfl) ?_
    refine RL.nil ?_
    refine CW.ret ?_
    refine outP1 Try.results46 (congrArg B ?_) hH.below
    (rw [decide_eq_false (by omega)]; done)
theorem c_cells_Cells_Get (F : Nat) (vW vU vT : Value) (cnt : Int) (W : List (BitVec 64)) (i : Int) (hi : 0 ≤ i ∧ i < W.length) (w : World) (hb : w.heap[F]? = some (.cells #[vW, vU, vT, I cnt] 65 (0, 0))) (hW : Sl w vW 1 W.length (W.map U)) : Calls Try.prog 41 #[.pointer (some ⟨F, 0, none⟩), I i] w (Pure (U (W.getD i.toNat 0)) w) := by
  refine enter Try.func41 rfl Try.ntmps41 rfl ?_
  have hH := Hp.start w
  refine CW.seq ?_
  refine CW.region ?_
  refine RL.val rfl (run_assign (v := U 0#64) rfl) ?_
  refine RL.nil ?_
  refine CW.seq ?_
  refine CW.seq ?_
  refine CW.region ?_
  refine RL.val rfl (run_move (v := .pointer (some ⟨_, _, none⟩)) rfl) ?_
  refine RL.val rfl (run_move (v := I _) rfl) ?_
  refine RL.callP rfl hH (c_cells_Cells_is _ _ _ _ _ _ _ _ (hH.ext hb) (hW.hp hH)) (run_call2 Try.call46 rfl rfl) ?_
  intro w1 hH2
  refine RL.val rfl (run_notP rfl) ?_
  refine RL.nil ?_
  refine CW.condP rfl (fun h6 => ?_) (fun h6 => ?_)
  · refine CW.seq ?_
    refine CW.region ?_
    refine RL.val rfl (run_assign (v := U 0#64) rfl) ?_
    refine RL.nil ?_
    refine CW.ret ?_
    refine outP1 Try.results41 (congrArg U ?_) hH2.below
    omega
  · refine CW.skip ?_
    refine CW.seq ?_
    refine CW.region ?_
    refine RL.val rfl (run_move (v := .pointer (some ⟨_, _, none⟩)) rfl) ?_
    refine RL.val rfl (run_nilCheck rfl) ?_
    refine RL.val rfl (run_fieldAddr Try.underlying61 rfl (off := 0) rfl Try.sizeOf58 (by decide) rfl) ?_
    refine RL.val rfl (run_ld Try.underlying58 rfl rfl (hH2.extCell hb rfl)) ?_
    refine RL.val rfl (run_move (v := I _) rfl) ?_
    refine RL.val rfl (run_indexAddrS (hW.hp hH2) Try.underlying58 Try.sizeOf28 rfl rfl (by omega)) ?_
    refine RL.val rfl (run_ld Try.underlying28 rfl rfl (Sl.atU (hW.hp hH2) (by omega) (by omega))) ?_
    refine RL.val rfl (run_assign (v := U _) rfl) ?_
    refine RL.nil ?_
    refine CW.ret ?_
    refine outP1 Try.results41 (congrArg U ?_) hH2.below
    rfl
theorem c_cells_Cells_Mark (F : Nat) (vW vU vT : Value) (cnt : Int) (W : List (BitVec 64)) (us : List Value) (w : World) (hb : w.heap[F]? = some (.cells #[vW, vU, vT, I cnt] 65 (0, 0))) (hW : Sl w vW 1 W.length (W.map U)) (hU : Sl w vU 1 us.length us) : Calls Try.prog 26 #[.pointer (some ⟨F, 0, none⟩)] w (Pure (I us.length) w) := by
  refine enter Try.func26 rfl Try.ntmps26 rfl ?_
  have hH := Hp.start w
  refine CW.seq ?_
  refine CW.region ?_
  refine RL.val rfl (run_assign (v := I 0) rfl) ?_
  refine RL.nil ?_
  refine CW.seq ?_
  refine CW.seq ?_
  refine CW.region ?_
  refine RL.val rfl (run_move (v := .pointer (some ⟨_, _, none⟩)) rfl) ?_
  refine RL.val rfl (run_eqlP0 Try.underlying78 rfl rfl) ?_
  refine RL.nil ?_
  refine CW.condF rfl ?_
  refine CW.skip ?_
  refine CW.seq ?_
  refine CW.region ?_
  refine RL.val rfl (run_move (v := .pointer (some ⟨_, _, none⟩)) rfl) ?_
  refine RL.val rfl (run_nilCheck rfl) ?_
  refine RL.val rfl (run_fieldAddr Try.underlying61 rfl (off := 1) rfl Try.sizeOf59 (by decide) rfl) ?_
  refine RL.val rfl (run_ld Try.underlying59 rfl rfl (hH.extCell hb rfl)) ?_
  refine RL.val rfl (run_lenSl (hU.hp hH) rfl Try.underlying59 rfl) ?_
  refine RL.val rfl (run_assign (v := I _) rfl) ?_
  refine RL.nil ?_
  refine CW.ret ?_
  refine outP1 Try.results26 (congrArg I ?_) hH.below
  rfl
theorem c_forest_nodes_cell (F : Nat) (vW vU vT : Value) (cnt : Int) (W : List (BitVec 64)) (i k : Int) (hi : 0 ≤ i ∧ i < 1000000 ∧ 0 ≤ k ∧ k < 4 ∧ 4 * i + k < W.length) (w : World) (hb : w.heap[F]? = some (.cells #[vW, vU, vT, I cnt] 65 (0, 0))) (hW : Sl w vW 1 W.length (W.map U)) : Calls Try.prog 30 #[.pointer (some ⟨F, 0, none⟩), I i, I k] w (Pure (I (W.getD (4 * i + k).toNat 0).toInt) w) := by
  refine enter Try.func30 rfl Try.ntmps30 rfl ?_
  have hH := Hp.start w
  refine CW.seq ?_
  refine CW.region ?_
  refine RL.val rfl (run_assign (v := I 0) rfl) ?_
  refine RL.nil ?_
  refine CW.seq ?_
  refine CW.region ?_
  refine RL.val rfl (run_move (v := .pointer (some ⟨_, _, none⟩)) rfl) ?_
  refine RL.val rfl (run_nilCheck rfl) ?_
  refine RL.val rfl (run_fieldAddr Try.underlying63 rfl (off := 0) rfl Try.sizeOf61 (by decide) rfl) ?_
  refine RL.val rfl (run_move (v := I _) rfl) ?_
  refine RL.val rfl (run_mul rfl rfl (by omega)) ?_
  refine RL.val rfl (run_move (v := I _) rfl) ?_
  refine RL.val rfl (run_add rfl rfl (by omega)) ?_
  refine RL.callP rfl hH (c_cells_Cells_Get _ _ _ _ _ _ _ (by omega) _ (hH.ext hb) (hW.hp hH)) (run_call2 Try.call41 rfl rfl) ?_
  intro w1 hH2
  refine RL.val rfl (run_convUS Try.underlying28 Try.underlying3 rfl) ?_
  refine RL.val rfl (run_assign (v := I _) rfl) ?_
  refine RL.nil ?_
  refine CW.ret ?_
  refine outP1 Try.results30 (congrArg I ?_) hH2.below
  rfl
theorem c_forest_Forest_Len (F : Nat) (vW vU vT : Value) (cnt : Int) (nd : List Fnd) (hn : nd.length ≤ 1000000) (w : World) (hb : w.heap[F]? = some (.cells #[vW, vU, vT, I cnt] 65 (0, 0))) (hW : Sl w vW 1 (wordsN nd).length ((wordsN nd).map U)) : Calls Try.prog 16 #[.pointer (some ⟨F, 0, none⟩)] w (Pure (I nd.length) w) := by
  have hwl := wordsN_len nd
  refine enter Try.func16 rfl Try.ntmps16 rfl ?_
  have hH := Hp.start w
  refine CW.seq ?_
  refine CW.region ?_
  refine RL.val rfl (run_assign (v := I 0) rfl) ?_
  refine RL.nil ?_
  refine CW.seq ?_
  refine CW.seq ?_
  refine CW.region ?_
  refine RL.val rfl (run_move (v := .pointer (some ⟨_, _, none⟩)) rfl) ?_
  refine RL.val rfl (run_eqlP0 Try.underlying26 rfl rfl) ?_
  refine RL.nil ?_
  refine CW.condF rfl ?_
  refine CW.skip ?_
  refine CW.seq ?_
  refine CW.region ?_
  refine RL.val rfl (run_move (v := .pointer (some ⟨_, _, none⟩)) rfl) ?_
  refine RL.val rfl (run_nilCheck rfl) ?_
  refine RL.val rfl (run_fieldAddr Try.underlying65 rfl (off := 0) rfl Try.sizeOf63 (by decide) rfl) ?_
  refine RL.val rfl (run_fieldAddr Try.underlying63 rfl (off := 0) rfl Try.sizeOf61 (by decide) rfl) ?_
  refine RL.callP rfl hH (c_cells_Cells_Len _ _ _ _ _ _ _ (hH.ext hb) (hW.hp hH)) (run_call1 Try.call37 rfl) ?_
  intro w1 hH2
  refine RL.val rfl (run_quo rfl rfl (by omega) (by omega)) ?_
  refine RL.val rfl (run_assign (v := I _) rfl) ?_
  refine RL.nil ?_
  refine CW.ret ?_
  refine outP1 Try.results16 (congrArg I ?_) hH2.below
  omega
theorem c_forest_Forest_is (F : Nat) (vW vU vT : Value) (cnt : Int) (nd : List Fnd) (i : Int) (hn : nd.length ≤ 1000000) (w : World) (hb : w.heap[F]? = some (.cells #[vW, vU, vT, I cnt] 65 (0, 0))) (hW : Sl w vW 1 (wordsN nd).length ((wordsN nd).map U)) : Calls Try.prog 28 #[.pointer (some ⟨F, 0, none⟩), I i] w (Pure (B (decide (0 ≤ i ∧ i < nd.length))) w) := by
  refine enter Try.func28 rfl Try.ntmps28 rfl ?_
  have hH := Hp.start w
  refine CW.seq ?_
  refine CW.region ?_
  refine RL.val rfl (run_assign (v := B false) rfl) ?_
  refine RL.nil ?_
  refine CW.seq ?_
  refine CW.region ?_
  refine RL.val rfl (run_move (v := I _) rfl) ?_
  refine RL.val rfl (run_geq rfl rfl) ?_
  refine RL.val rfl (run_move (v := B _) rfl) ?_
  refine RL.splitP (dj := 7) rfl (fun h2 => ?_) (fun h2 => ?_)
  · refine RL.gT rfl (bT h2) ?_
    refine RL.val rfl (run_move (v := I _) rfl) ?_
    refine RL.gT rfl (bT h2) ?_
    refine RL.val rfl (run_move (v := .pointer (some ⟨_, _, none⟩)) rfl) ?_
    refine RL.gT rfl (bT h2) ?_
    refine RL.callP rfl hH (c_forest_Forest_Len _ _ _ _ _ _ (by assumption) _ (hH.ext hb) (hW.hp hH)) (run_call1 Try.call16 rfl) ?_
    intro w3 hH4
    refine RL.gT rfl (bT h2) ?_
    refine RL.val rfl (run_lss rfl rfl) ?_
    refine RL.val rfl (run_pickT (bT h2) (v := B _) rfl) ?_
    refine RL.val rfl (run_assign (v := B _) rfl) ?_
    refine RL.nil ?_
    refine CW.ret ?_
    refine outP1 Try.results28 (congrArg B ?_) hH4.below
    (simp; omega)
  · refine RL.gF rfl rfl (bF h2) rfl ?_
    refine RL.gF rfl rfl (bF h2) rfl ?_
    refine RL.gF rfl rfl (bF h2) rfl ?_
    refine RL.gF rfl rfl (bF h2) rfl ?_
    refine RL.val rfl (run_pickF (bF h2) (v := B false) rfl) ?_
    refine RL.val rfl (run_assign (v := B _) rfl) ?_
    refine RL.nil ?_
    refine CW.ret ?_
    refine outP1 Try.results28 (congrArg B ?_) hH.below
    (rw [decide_eq_false (by omega)]; done)
theorem c_forest_Forest_Count (F : Nat) (vW vU vT : Value) (cnt : Int) (W : List (BitVec 64)) (w : World) (hb : w.heap[F]? = some (.cells #[vW, vU, vT, I cnt] 65 (0, 0))) (hW : Sl w vW 1 W.length (W.map U)) : Calls Try.prog 18 #[.pointer (some ⟨F, 0, none⟩)] w (Pure (I cnt) w) := by
  refine enter Try.func18 rfl Try.ntmps18 rfl ?_
  have hH := Hp.start w
  refine CW.seq ?_
  refine CW.region ?_
  refine RL.val rfl (run_assign (v := I 0) rfl) ?_
  refine RL.nil ?_
  refine CW.seq ?_
  refine CW.seq ?_
  refine CW.region ?_
  refine RL.val rfl (run_move (v := .pointer (some ⟨_, _, none⟩)) rfl) ?_
  refine RL.val rfl (run_eqlP0 Try.underlying26 rfl rfl) ?_
  refine RL.nil ?_
  refine CW.condF rfl ?_
  refine CW.skip ?_
  refine CW.seq ?_
  refine CW.region ?_
  refine RL.val rfl (run_move (v := .pointer (some ⟨_, _, none⟩)) rfl) ?_
  refine RL.val rfl (run_nilCheck rfl) ?_
  refine RL.val rfl (run_fieldAddr Try.underlying65 rfl (off := 3) rfl Try.sizeOf3 (by decide) rfl) ?_
  refine RL.val rfl (run_ld Try.underlying3 rfl rfl (hH.extCell hb (v := I _) rfl)) ?_
  refine RL.val rfl (run_assign (v := I _) rfl) ?_
  refine RL.nil ?_
  refine CW.ret ?_
  refine outP1 Try.results18 (congrArg I ?_) hH.below
  rfl
theorem c_forest_Forest_root (F : Nat) (vW vU vT : Value) (cnt : Int) (nd : List Fnd) (cl : List Nat) (i : Int) (hn : nd.length ≤ 1000000) (hf : Fo nd cl) (hi : 0 ≤ i ∧ i < nd.length) (w : World) (hb : w.heap[F]? = some (.cells #[vW, vU, vT, I cnt] 65 (0, 0))) (hW : Sl w vW 1 (wordsN nd).length ((wordsN nd).map U)) : Calls Try.prog 29 #[.pointer (some ⟨F, 0, none⟩), I i] w (Pure (I (rootC nd cl i.toNat)) w) := by
  have hwl := wordsN_len nd
  refine enter Try.func29 rfl Try.ntmps29 rfl ?_
  have hH := Hp.start w
  refine CW.seq ?_
  refine CW.region ?_
  refine RL.val rfl (run_assign (v := I 0) rfl) ?_
  refine RL.nil ?_
  refine CW.seq ?_
  refine CW.block ?_
  refine CW.loop (G := (Nat)) (fun (c : Nat) s' w' => (Fr [1, 5, 6, 7, 8, 9, 10, 11, 12, 13, 14, 15, 16] _ s') ∧ (Hp w w' _) ∧ (s' 1 = I (c : Int)) ∧ (c < nd.length) ∧ (clF cl c = clF cl i.toNat)) (fun (c : Nat) => nd.length - szF nd c) (i.toNat) ⟨Fr.refl _ _, hH, (congrArg I (show i = ((i.toNat : Nat) : Int) by omega)), (by omega), rfl⟩ ?_
  rintro c sg1 w1 ⟨fr1, hH1, e1_1, hc, hcl⟩
  have e0_1 : sg1 0 = .pointer (some ⟨_, _, none⟩) := (fr1 0 rfl).trans rfl
  have e4_1 : sg1 4 = I _ := (fr1 4 rfl).trans rfl
  have hcu := cell_up hf hn hc
  refine CW.seq ?_
  refine CW.seq ?_
  refine CW.region ?_
  refine RL.val rfl (run_move e0_1) ?_
  refine RL.val rfl (run_nilCheck rfl) ?_
  refine RL.val rfl (run_fieldAddr Try.underlying65 rfl (off := 0) rfl Try.sizeOf63 (by decide) rfl) ?_
  refine RL.val rfl (run_move e1_1) ?_
  refine RL.callP rfl hH1 (c_forest_nodes_cell _ _ _ _ _ _ _ _ (by omega) _ (hH1.ext hb) (hW.hp hH1)) (run_call3 Try.call30 rfl rfl (show _ = I 0 from rfl)) ?_
  intro w2 hH3
  refine RL.val rfl (run_move e1_1) ?_
  refine RL.val rfl (run_neq rfl rfl) ?_
  refine RL.nil ?_
  refine CW.condP rfl (fun h5 => ?_) (fun h5 => ?_)
  · refine CW.skip ?_
    refine CW.block ?_
    refine CW.region ?_
    refine RL.val rfl (run_move e0_1) ?_
    refine RL.val rfl (run_nilCheck rfl) ?_
    refine RL.val rfl (run_fieldAddr Try.underlying65 rfl (off := 0) rfl Try.sizeOf63 (by decide) rfl) ?_
    refine RL.val rfl (run_move e1_1) ?_
    refine RL.callP rfl hH3 (c_forest_nodes_cell _ _ _ _ _ _ _ _ (by omega) _ (hH3.ext hb) (hW.hp hH3)) (run_call3 Try.call30 rfl rfl (show _ = I 0 from rfl)) ?_
    intro w6 hH7
    refine RL.val rfl (run_assign (v := I _) rfl) ?_
    refine RL.nil ?_
    refine ⟨upF nd c, ?_, ((((((((((((fr1.u rfl).u rfl).u rfl).u rfl).u rfl).u rfl).u rfl).u rfl).u rfl).u rfl).u rfl).u rfl).u rfl, hH7, (congrArg I hcu), ?_, ?_⟩
    · have hne : upF nd c ≠ c := fun e => ‹_ ≠ (c : Int)› (hcu.trans (by rw [e])); exact (root_up hf hc rfl).2.2 hne
    · exact (root_up hf hc hcl).1
    · exact (root_up hf hc hcl).2.1
  · refine CW.exit (id := 0) rfl ?_
    refine CW.seq ?_
    refine CW.region ?_
    refine RL.val rfl (run_move e1_1) ?_
    refine RL.val rfl (run_assign (v := I _) rfl) ?_
    refine RL.nil ?_
    refine CW.ret ?_
    refine outP1 Try.results29 (congrArg I ?_) hH3.below
    exact congrArg (fun x : Nat => (x : Int)) (rootC_eq hf (by omega) hc (by omega) hcl)
theorem c_forest_Forest_Find (F : Nat) (vW vU vT : Value) (cnt : Int) (nd : List Fnd) (cl : List Nat) (i : Int) (hn : nd.length ≤ 1000000) (hf : Fo nd cl) (w : World) (hb : w.heap[F]? = some (.cells #[vW, vU, vT, I cnt] 65 (0, 0))) (hW : Sl w vW 1 (wordsN nd).length ((wordsN nd).map U)) : Calls Try.prog 11 #[.pointer (some ⟨F, 0, none⟩), I i] w (Pure (I (findR cl i)) w) := by
  have hwl := wordsN_len nd
  refine enter Try.func11 rfl Try.ntmps11 rfl ?_
  have hH := Hp.start w
  refine CW.seq ?_
  refine CW.region ?_
  refine RL.val rfl (run_assign (v := I 0) rfl) ?_
  refine RL.nil ?_
  refine CW.seq ?_
  refine CW.seq ?_
  refine CW.region ?_
  refine RL.val rfl (run_move (v := .pointer (some ⟨_, _, none⟩)) rfl) ?_
  refine RL.val rfl (run_move (v := I _) rfl) ?_
  refine RL.callP rfl hH (c_forest_Forest_is _ _ _ _ _ _ _ (by assumption) _ (hH.ext hb) (hW.hp hH)) (run_call2 Try.call28 rfl rfl) ?_
  intro w1 hH2
  refine RL.val rfl (run_notP rfl) ?_
  refine RL.nil ?_
  refine CW.condP rfl (fun h6 => ?_) (fun h6 => ?_)
  · refine CW.seq ?_
    refine CW.region ?_
    refine RL.val rfl (run_assign (v := I (-1)) rfl) ?_
    refine RL.nil ?_
    refine CW.ret ?_
    refine outP1 Try.results11 (congrArg I ?_) hH2.below
    exact find_none hf (by omega)
  · refine CW.skip ?_
    refine CW.seq ?_
    refine CW.regionD (by kernel_rfl) hH2 ?_
    intro w7 hH8
    refine AN.take 0 rfl rfl (by kernel_rfl) (by kernel_rfl) (by kernel_rfl) (hH8.sub (List.Sublist.refl _)) (fun w hS => run_move (v := .pointer (some ⟨_, _, none⟩)) rfl) ?_
    refine AN.take 1 rfl rfl (by kernel_rfl) (by kernel_rfl) (by kernel_rfl) (hH8.sub (List.Sublist.refl _)) (fun w hS => run_nilCheck rfl) ?_
    refine AN.take 2 rfl rfl (by kernel_rfl) (by kernel_rfl) (by kernel_rfl) (hH8.sub (List.Sublist.refl _)) (fun w hS => run_fieldAddr Try.underlying65 rfl (off := 0) rfl Try.sizeOf63 (by decide) rfl) ?_
    refine AN.take 3 rfl rfl (by kernel_rfl) (by kernel_rfl) (by kernel_rfl) (hH8.sub (List.Sublist.refl _)) (fun w hS => run_move (v := .pointer (some ⟨_, _, none⟩)) rfl) ?_
    refine AN.take 4 rfl rfl (by kernel_rfl) (by kernel_rfl) (by kernel_rfl) (hH8.sub (List.Sublist.refl _)) (fun w hS => run_move (v := I _) rfl) ?_
    refine AN.one 5 (by kernel_rfl) ?_
    refine AO.callP rfl gnone rfl hH8 (List.Sublist.refl _) (c_forest_Forest_root _ _ _ _ _ nd cl _ (by assumption) (by assumption) (by omega) _ (hH8.ext hb) (hW.hp hH8)) (run_call2 Try.call29 rfl rfl) ?_
    intro w9 hH10
    refine AN.one 6 (by kernel_rfl) ?_
    refine AO.callP rfl gnone rfl hH10 (List.Sublist.refl _) (c_forest_nodes_cell _ _ _ _ _ _ _ _ (by have := (rootC_is hf (i := i.toNat) (by omega)).1; omega) _ (hH10.ext hb) (hW.hp hH10)) (run_call3 Try.call30 rfl rfl (show _ = I 3 from rfl)) ?_
    intro w11 hH12
    refine AN.take 7 rfl rfl (by kernel_rfl) (by kernel_rfl) (by kernel_rfl) (hH12.sub (List.Sublist.refl _)) (fun w hS => run_assign (v := I _) rfl) ?_
    refine AN.done (by kernel_rfl) ?_
    refine CW.ret ?_
    refine outP1 Try.results11 (congrArg I ?_) hH12.below
    exact find_cell hf hn (by omega)
theorem c_cells_Cells_Add (W0 : World) (F : Nat) (vW vU vT : Value) (cnt : Int) (cW cU : Option (Nat × Array Value)) (W : List (BitVec 64)) (ul : List (Value × Und)) (L : List Ent) (b : BitVec 64) (hwl : W.length ≤ 4000000) (hul : ul.length ≤ 4000000) (w : World) (hkW : cO cW vW (W.map U)) (hkU : cO cU vU (ul.map Prod.fst)) (hH : Hp W0 w (.blk F (.cells #[vW, vU, vT, I (cnt)] 65 (0, 0)) :: cE cW vW 28 (W.map U) :: cE cU vU 1 (ul.map Prod.fst) :: L)) : Calls Try.prog 27 #[.pointer (some ⟨F, 0, none⟩), U b] w (Ret fun u w' => u = I W.length ∧ ∃ (v' : Value) (c' : Option (Nat × Array Value)) (v2 : Value) (c2 : Option (Nat × Array Value)) (ul' : List (Value × Und)) (Lb : List Ent), cO c' v' ((W ++ [b]).map U) ∧ cO c2 v2 (ul'.map Prod.fst) ∧ ul'.map Prod.snd = ul.map Prod.snd ++ [Und.add W.length] ∧ ul'.take ul.length = ul ∧ ul'.length ≤ ul.length + 1 ∧ (∀ x ∈ ul'.drop ul.length, UndIn (⟨40, 47, 78, 3, 28⟩ : UT) F Lb x) ∧ Hp W0 w' (.blk F (.cells #[v', v2, vT, I (cnt)] 65 (0, 0)) :: cE c' v' 28 ((W ++ [b]).map U) :: cE c2 v2 1 (ul'.map Prod.fst) :: (Lb ++ L))) := by
  refine enter Try.func27 rfl Try.ntmps27 rfl ?_
  refine CW.seq ?_
  refine CW.region ?_
  refine RL.new rfl hH (f := fun b => (.pointer (some ⟨b, 0, none⟩))) (run_box (v := .pointer (some ⟨_, _, none⟩)) rfl) ?_
  intro b3 w1 hH2
  refine RL.val rfl (run_assign (v := I 0) rfl) ?_
  refine RL.nil ?_
  refine CW.seq ?_
  refine CW.seq ?_
  refine CW.region ?_
  refine RL.val rfl (run_ld Try.underlying78 rfl rfl (hH2.cell (i := 0) rfl (v := .pointer (some ⟨_, _, none⟩)) rfl)) ?_
  refine RL.val rfl (run_eqlP0 Try.underlying78 rfl rfl) ?_
  refine RL.nil ?_
  refine CW.condF rfl ?_
  refine CW.skip ?_
  refine CW.seq ?_
  refine CW.region ?_
  refine RL.val rfl (run_ld Try.underlying78 rfl rfl (hH2.cell (i := 0) rfl (v := .pointer (some ⟨_, _, none⟩)) rfl)) ?_
  refine RL.val rfl (run_nilCheck rfl) ?_
  refine RL.val rfl (run_fieldAddr Try.underlying61 rfl (off := 0) rfl Try.sizeOf58 (by decide) rfl) ?_
  refine RL.val rfl (run_ld Try.underlying58 rfl rfl (hH2.cell (i := 1) rfl rfl)) ?_
  refine RL.val rfl (run_lenSl (hH2.slU (i := 2) rfl hkW) rfl Try.underlying58 rfl) ?_
  refine RL.new rfl hH2 (f := fun b => (.pointer (some ⟨b, 0, none⟩))) (run_alloc Try.zeroValue3) ?_
  intro b6 w4 hH5
  refine RL.set hH5 (i := 0) rfl (run_st rfl rfl (v := I _) rfl rfl rfl (hH5.blk (i := 0) rfl) (by decide)) ?_
  intro w7 hH8
  simp only [List.set_cons_zero, List.set_cons_succ] at hH8
  refine RL.nil ?_
  refine CW.seq ?_
  refine CW.regionS (by kernel_rfl) hH8 (.cons_cons _ (.cons_cons _ (.cons _ (.cons _ (List.Sublist.refl _))))) ?_
  intro w9 hH10
  refine AN.take 0 rfl rfl (by kernel_rfl) (by kernel_rfl) (by kernel_rfl) (hH10.sub (.cons_cons _ (.cons_cons _ (.cons _ (.cons _ (List.Sublist.refl _)))))) (fun w hS => run_ld Try.underlying78 rfl rfl (hS.cell (i := 1) rfl (v := .pointer (some ⟨_, _, none⟩)) rfl)) ?_
  refine AN.take 1 rfl rfl (by kernel_rfl) (by kernel_rfl) (by kernel_rfl) (hH10.sub (.cons_cons _ (.cons_cons _ (.cons _ (.cons _ (List.Sublist.refl _)))))) (fun w hS => run_ld Try.underlying78 rfl rfl (hS.cell (i := 1) rfl (v := .pointer (some ⟨_, _, none⟩)) rfl)) ?_
  refine AN.take 2 rfl rfl (by kernel_rfl) (by kernel_rfl) (by kernel_rfl) (hH10.sub (.cons_cons _ (.cons_cons _ (.cons _ (.cons _ (List.Sublist.refl _)))))) (fun w hS => run_nilCheck rfl) ?_
  refine AN.take 3 rfl rfl (by kernel_rfl) (by kernel_rfl) (by kernel_rfl) (hH10.sub (.cons_cons _ (.cons_cons _ (.cons _ (.cons _ (List.Sublist.refl _)))))) (fun w hS => run_fieldAddr Try.underlying61 rfl (off := 0) rfl Try.sizeOf58 (by decide) rfl) ?_
  refine AN.take 5 rfl rfl (by kernel_rfl) (by kernel_rfl) (by kernel_rfl) (hH10.sub (.cons_cons _ (.cons_cons _ (.cons _ (.cons _ (List.Sublist.refl _)))))) (fun w hS => run_move (v := U _) rfl) ?_
  refine AN.two 4 6 (by kernel_rfl) ?_ ?_
  · refine AO.read rfl gnone rfl hH10 (.cons_cons _ (.cons_cons _ (.cons _ (.cons _ (List.Sublist.refl _))))) (run_ld Try.underlying58 rfl rfl (hH10.cell (i := 2) rfl rfl)) ?_
    refine AN.one 6 (by kernel_rfl) ?_
    refine AO.new rfl gnone rfl hH10 (.cons_cons _ (.cons_cons _ (.cons _ (.cons _ (List.Sublist.refl _))))) (f := fun b => .slice (some ⟨b, 0, none⟩) 1 1) (run_mkL Try.underlying58 rfl rfl (sz := 1) (vs := [U _]) rfl rfl (by decide) (by decide) rfl rfl) ?_
    intro b15 w13 hH14
    (try simp only [List.flatMap_cons, List.flatMap_nil, clI, clB, clS, clP, clL, clA, List.append_nil, List.cons_append, List.nil_append] at hH14)
    refine AN.one 7 (by kernel_rfl) ?_
    refine AO.appE (y0 := U b) rfl gnone rfl hH14 (i := 4) rfl hkW (fun _ _ => (.cons _ (.cons_cons _ (.cons_cons _ (.cons _ (.cons _ (List.Sublist.refl _))))))) (hH14.slBlk (i := 0) (n := 1) (sz := 1) rfl rfl (by decide)) rfl rfl Try.underlying58 rfl rfl rfl (bytes := 8) rfl rfl rfl (by simp only [List.length_map, maxLen]; omega) (by simp only [List.length_map, maxLen]; omega) ?_
    intro v18 w19 hH20
    simp only [List.set_cons_zero, List.set_cons_succ] at hH20
    rw [map_snocU] at hH20
    refine AN.take 8 rfl rfl (by kernel_rfl) (by kernel_rfl) (by kernel_rfl) (hH20.sub (.cons _ (.cons_cons _ (.cons_cons _ (.cons _ (.cons _ (List.Sublist.refl _))))))) (fun w hS => run_nilCheck rfl) ?_
    refine AN.take 9 rfl rfl (by kernel_rfl) (by kernel_rfl) (by kernel_rfl) (hH20.sub (.cons _ (.cons_cons _ (.cons_cons _ (.cons _ (.cons _ (List.Sublist.refl _))))))) (fun w hS => run_fieldAddr Try.underlying61 rfl (off := 0) rfl Try.sizeOf58 (by decide) rfl) ?_
    refine AN.one 10 (by kernel_rfl) ?_
    refine AO.set rfl gnone hH20 (j := 3) rfl (.cons _ (.cons_cons _ (.cons_cons _ (.cons _ (.cons _ (List.Sublist.refl _)))))) (run_st rfl rfl (v := v18) rfl (one_sl (hH20.slU (i := 4) rfl trivial)).2 (one_sl (hH20.slU (i := 4) rfl trivial)).1 (hH20.blk (i := 3) rfl) (by simp)) ?_
    intro w23 hH24
    simp only [List.set_cons_zero, List.set_cons_succ] at hH24
    refine AN.done (by kernel_rfl) ?_
    refine CW.seq ?_
    refine CW.regionS (by kernel_rfl) hH24 (.cons_cons _ (.cons_cons _ (.cons_cons _ (.cons _ (.cons_cons _ (.cons _ (List.Sublist.refl _))))))) ?_
    intro w25 hH26
    refine AN.take 0 rfl rfl (by kernel_rfl) (by kernel_rfl) (by kernel_rfl) (hH26.sub (.cons_cons _ (.cons_cons _ (.cons_cons _ (.cons _ (.cons_cons _ (.cons _ (List.Sublist.refl _)))))))) (fun w hS => run_ld Try.underlying78 rfl rfl (hS.cell (i := 2) rfl (v := .pointer (some ⟨_, _, none⟩)) rfl)) ?_
    refine AN.take 1 rfl rfl (by kernel_rfl) (by kernel_rfl) (by kernel_rfl) (hH26.sub (.cons_cons _ (.cons_cons _ (.cons_cons _ (.cons _ (.cons_cons _ (.cons _ (List.Sublist.refl _)))))))) (fun w hS => run_ld Try.underlying78 rfl rfl (hS.cell (i := 2) rfl (v := .pointer (some ⟨_, _, none⟩)) rfl)) ?_
    refine AN.take 2 rfl rfl (by kernel_rfl) (by kernel_rfl) (by kernel_rfl) (hH26.sub (.cons_cons _ (.cons_cons _ (.cons_cons _ (.cons _ (.cons_cons _ (.cons _ (List.Sublist.refl _)))))))) (fun w hS => run_nilCheck rfl) ?_
    refine AN.take 3 rfl rfl (by kernel_rfl) (by kernel_rfl) (by kernel_rfl) (hH26.sub (.cons_cons _ (.cons_cons _ (.cons_cons _ (.cons _ (.cons_cons _ (.cons _ (List.Sublist.refl _)))))))) (fun w hS => run_fieldAddr Try.underlying61 rfl (off := 1) rfl Try.sizeOf59 (by decide) rfl) ?_
    refine AN.take 5 rfl rfl (by kernel_rfl) (by kernel_rfl) (by kernel_rfl) (hH26.sub (.cons_cons _ (.cons_cons _ (.cons_cons _ (.cons _ (.cons_cons _ (.cons _ (List.Sublist.refl _)))))))) (fun w hS => run_mkF2 (by conv => lhs; whnf) (by conv => lhs; whnf)) ?_
    refine AN.two 4 6 (by kernel_rfl) ?_ ?_
    · refine AO.read rfl gnone rfl hH26 (.cons_cons _ (.cons_cons _ (.cons_cons _ (.cons _ (.cons_cons _ (.cons _ (List.Sublist.refl _))))))) (run_ld Try.underlying59 rfl rfl (hH26.cell (i := 3) rfl rfl)) ?_
      refine AN.one 6 (by kernel_rfl) ?_
      refine AO.new rfl gnone rfl hH26 (.cons_cons _ (.cons_cons _ (.cons_cons _ (.cons _ (.cons_cons _ (.cons _ (List.Sublist.refl _))))))) (f := fun b => .slice (some ⟨b, 0, none⟩) 1 1) (run_mkL Try.underlying59 rfl rfl (sz := 1) (vs := [.func _ _ _]) rfl rfl (by decide) (by decide) rfl rfl) ?_
      intro b31 w29 hH30
      (try simp only [List.flatMap_cons, List.flatMap_nil, clI, clB, clS, clP, clL, clA, List.append_nil, List.cons_append, List.nil_append] at hH30)
      refine AN.one 7 (by kernel_rfl) ?_
      refine AO.appE (y0 := .func (.func 40) #[] #[.pointer (some ⟨b3, 0, none⟩), .pointer (some ⟨b6, 0, none⟩)]) rfl gnone rfl hH30 (i := 6) rfl hkU (fun _ _ => (.cons _ (.cons_cons _ (.cons_cons _ (.cons_cons _ (.cons _ (.cons_cons _ (.cons _ (List.Sublist.refl _))))))))) (hH30.slBlk (i := 0) (n := 1) (sz := 1) rfl rfl (by decide)) rfl rfl Try.underlying59 rfl rfl rfl (bytes := 8) rfl rfl rfl (by simp only [List.length_map, maxLen]; omega) (by simp only [List.length_map, maxLen]; omega) ?_
      intro v34 w35 hH36
      simp only [List.set_cons_zero, List.set_cons_succ] at hH36
      rw [map_snocF (Und.add W.length)] at hH36
      refine AN.take 8 rfl rfl (by kernel_rfl) (by kernel_rfl) (by kernel_rfl) (hH36.sub (.cons _ (.cons_cons _ (.cons_cons _ (.cons_cons _ (.cons _ (.cons_cons _ (.cons _ (List.Sublist.refl _))))))))) (fun w hS => run_nilCheck rfl) ?_
      refine AN.take 9 rfl rfl (by kernel_rfl) (by kernel_rfl) (by kernel_rfl) (hH36.sub (.cons _ (.cons_cons _ (.cons_cons _ (.cons_cons _ (.cons _ (.cons_cons _ (.cons _ (List.Sublist.refl _))))))))) (fun w hS => run_fieldAddr Try.underlying61 rfl (off := 1) rfl Try.sizeOf59 (by decide) rfl) ?_
      refine AN.one 10 (by kernel_rfl) ?_
      refine AO.set rfl gnone hH36 (j := 4) rfl (.cons _ (.cons_cons _ (.cons_cons _ (.cons_cons _ (.cons _ (.cons_cons _ (.cons _ (List.Sublist.refl _)))))))) (run_st rfl rfl (v := v34) rfl (one_sl (hH36.slE (i := 6) rfl trivial)).2 (one_sl (hH36.slE (i := 6) rfl trivial)).1 (hH36.blk (i := 4) rfl) (by simp)) ?_
      intro w39 hH40
      simp only [List.set_cons_zero, List.set_cons_succ] at hH40
      refine AN.done (by kernel_rfl) ?_
      refine CW.seq ?_
      refine CW.region ?_
      refine RL.val rfl (run_ld Try.underlying3 rfl rfl (hH40.cell (i := 2) rfl (v := I _) rfl)) ?_
      refine RL.val rfl (run_assign (v := I _) rfl) ?_
      refine RL.nil ?_
      refine CW.ret ?_
      refine out1 Try.results27 (v := I W.length) rfl ⟨rfl, v18, none, v34, none, (ul ++ [(.func (.func 40) #[] #[.pointer (some ⟨b3, 0, none⟩), .pointer (some ⟨b6, 0, none⟩)], Und.add W.length)]), [Ent.blk b3 (.cells #[.pointer (some ⟨F, 0, none⟩)] 78 (0, 0)), Ent.blk b6 (.cells #[I W.length] 3 (0, 0))], trivial, trivial, ?_, ?_, ?_, ?_, (hH40.perm (((List.Perm.cons _ ((List.Perm.cons _ ((List.Perm.cons _ ((List.Perm.cons _ (List.Perm.refl _)).trans (List.Perm.swap _ _ _))).trans (List.Perm.swap _ _ _))).trans (List.Perm.swap _ _ _))).trans (List.Perm.swap _ _ _)).trans (List.Perm.cons _ (((List.Perm.cons _ ((List.Perm.cons _ ((List.Perm.cons _ ((List.Perm.cons _ (List.Perm.refl _)).trans (List.Perm.swap _ _ _))).trans (List.Perm.swap _ _ _))).trans (List.Perm.swap _ _ _))).trans (List.Perm.swap _ _ _)).trans (List.Perm.cons _ (((List.Perm.cons _ ((List.Perm.cons _ ((List.Perm.cons _ ((List.Perm.cons _ (List.Perm.refl _)).trans (List.Perm.swap _ _ _))).trans (List.Perm.swap _ _ _))).trans (List.Perm.swap _ _ _))).trans (List.Perm.swap _ _ _)).trans (List.Perm.cons _ (((List.Perm.cons _ ((List.Perm.cons _ ((List.Perm.cons _ (List.Perm.refl _)).trans (List.Perm.swap _ _ _))).trans (List.Perm.swap _ _ _))).trans (List.Perm.swap _ _ _)).trans (List.Perm.cons _ (((List.Perm.cons _ ((List.Perm.cons _ (List.Perm.refl _)).trans (List.Perm.swap _ _ _))).trans (List.Perm.swap _ _ _)).trans (List.Perm.cons _ (List.Perm.refl _)))))))))))).sub (.cons_cons _ (.cons_cons _ (.cons_cons _ (.cons_cons _ (.cons_cons _ (.cons _ (.cons _ (List.Sublist.refl _))))))))⟩
      · simp
      · simp
      · simp
      · intro x hx; rw [List.drop_left, List.mem_singleton] at hx; subst hx; exact ⟨_, _, rfl, by simp, by simp⟩
    · refine AO.new rfl gnone rfl hH26 (.cons_cons _ (.cons_cons _ (.cons_cons _ (.cons _ (.cons_cons _ (.cons _ (List.Sublist.refl _))))))) (f := fun b => .slice (some ⟨b, 0, none⟩) 1 1) (run_mkL Try.underlying59 rfl rfl (sz := 1) (vs := [.func _ _ _]) rfl rfl (by decide) (by decide) rfl rfl) ?_
      intro b43 w41 hH42
      (try simp only [List.flatMap_cons, List.flatMap_nil, clI, clB, clS, clP, clL, clA, List.append_nil, List.cons_append, List.nil_append] at hH42)
      refine AN.one 4 (by kernel_rfl) ?_
      refine AO.read rfl gnone rfl hH42 (.cons _ (.cons_cons _ (.cons_cons _ (.cons_cons _ (.cons _ (.cons_cons _ (.cons _ (List.Sublist.refl _)))))))) (run_ld Try.underlying59 rfl rfl (hH42.cell (i := 4) rfl rfl)) ?_
      refine AN.one 7 (by kernel_rfl) ?_
      refine AO.appE (y0 := .func (.func 40) #[] #[.pointer (some ⟨b3, 0, none⟩), .pointer (some ⟨b6, 0, none⟩)]) rfl gnone rfl hH42 (i := 6) rfl hkU (fun _ _ => (.cons _ (.cons_cons _ (.cons_cons _ (.cons_cons _ (.cons _ (.cons_cons _ (.cons _ (List.Sublist.refl _))))))))) (hH42.slBlk (i := 0) (n := 1) (sz := 1) rfl rfl (by decide)) rfl rfl Try.underlying59 rfl rfl rfl (bytes := 8) rfl rfl rfl (by simp only [List.length_map, maxLen]; omega) (by simp only [List.length_map, maxLen]; omega) ?_
      intro v48 w49 hH50
      simp only [List.set_cons_zero, List.set_cons_succ] at hH50
      rw [map_snocF (Und.add W.length)] at hH50
      refine AN.take 8 rfl rfl (by kernel_rfl) (by kernel_rfl) (by kernel_rfl) (hH50.sub (.cons _ (.cons_cons _ (.cons_cons _ (.cons_cons _ (.cons _ (.cons_cons _ (.cons _ (List.Sublist.refl _))))))))) (fun w hS => run_nilCheck rfl) ?_
      refine AN.take 9 rfl rfl (by kernel_rfl) (by kernel_rfl) (by kernel_rfl) (hH50.sub (.cons _ (.cons_cons _ (.cons_cons _ (.cons_cons _ (.cons _ (.cons_cons _ (.cons _ (List.Sublist.refl _))))))))) (fun w hS => run_fieldAddr Try.underlying61 rfl (off := 1) rfl Try.sizeOf59 (by decide) rfl) ?_
      refine AN.one 10 (by kernel_rfl) ?_
      refine AO.set rfl gnone hH50 (j := 4) rfl (.cons _ (.cons_cons _ (.cons_cons _ (.cons_cons _ (.cons _ (.cons_cons _ (.cons _ (List.Sublist.refl _)))))))) (run_st rfl rfl (v := v48) rfl (one_sl (hH50.slE (i := 6) rfl trivial)).2 (one_sl (hH50.slE (i := 6) rfl trivial)).1 (hH50.blk (i := 4) rfl) (by simp)) ?_
      intro w53 hH54
      simp only [List.set_cons_zero, List.set_cons_succ] at hH54
      refine AN.done (by kernel_rfl) ?_
      refine CW.seq ?_
      refine CW.region ?_
      refine RL.val rfl (run_ld Try.underlying3 rfl rfl (hH54.cell (i := 2) rfl (v := I _) rfl)) ?_
      refine RL.val rfl (run_assign (v := I _) rfl) ?_
      refine RL.nil ?_
      refine CW.ret ?_
      refine out1 Try.results27 (v := I W.length) rfl ⟨rfl, v18, none, v48, none, (ul ++ [(.func (.func 40) #[] #[.pointer (some ⟨b3, 0, none⟩), .pointer (some ⟨b6, 0, none⟩)], Und.add W.length)]), [Ent.blk b3 (.cells #[.pointer (some ⟨F, 0, none⟩)] 78 (0, 0)), Ent.blk b6 (.cells #[I W.length] 3 (0, 0))], trivial, trivial, ?_, ?_, ?_, ?_, (hH54.perm (((List.Perm.cons _ ((List.Perm.cons _ ((List.Perm.cons _ ((List.Perm.cons _ (List.Perm.refl _)).trans (List.Perm.swap _ _ _))).trans (List.Perm.swap _ _ _))).trans (List.Perm.swap _ _ _))).trans (List.Perm.swap _ _ _)).trans (List.Perm.cons _ (((List.Perm.cons _ ((List.Perm.cons _ ((List.Perm.cons _ ((List.Perm.cons _ (List.Perm.refl _)).trans (List.Perm.swap _ _ _))).trans (List.Perm.swap _ _ _))).trans (List.Perm.swap _ _ _))).trans (List.Perm.swap _ _ _)).trans (List.Perm.cons _ (((List.Perm.cons _ ((List.Perm.cons _ ((List.Perm.cons _ ((List.Perm.cons _ (List.Perm.refl _)).trans (List.Perm.swap _ _ _))).trans (List.Perm.swap _ _ _))).trans (List.Perm.swap _ _ _))).trans (List.Perm.swap _ _ _)).trans (List.Perm.cons _ (((List.Perm.cons _ ((List.Perm.cons _ ((List.Perm.cons _ (List.Perm.refl _)).trans (List.Perm.swap _ _ _))).trans (List.Perm.swap _ _ _))).trans (List.Perm.swap _ _ _)).trans (List.Perm.cons _ (((List.Perm.cons _ ((List.Perm.cons _ (List.Perm.refl _)).trans (List.Perm.swap _ _ _))).trans (List.Perm.swap _ _ _)).trans (List.Perm.cons _ (List.Perm.refl _)))))))))))).sub (.cons_cons _ (.cons_cons _ (.cons_cons _ (.cons_cons _ (.cons_cons _ (.cons _ (.cons _ (List.Sublist.refl _))))))))⟩
      · simp
      · simp
      · simp
      · intro x hx; rw [List.drop_left, List.mem_singleton] at hx; subst hx; exact ⟨_, _, rfl, by simp, by simp⟩
  · refine AO.new rfl gnone rfl hH10 (.cons_cons _ (.cons_cons _ (.cons _ (.cons _ (List.Sublist.refl _))))) (f := fun b => .slice (some ⟨b, 0, none⟩) 1 1) (run_mkL Try.underlying58 rfl rfl (sz := 1) (vs := [U _]) rfl rfl (by decide) (by decide) rfl rfl) ?_
    intro b57 w55 hH56
    (try simp only [List.flatMap_cons, List.flatMap_nil, clI, clB, clS, clP, clL, clA, List.append_nil, List.cons_append, List.nil_append] at hH56)
    refine AN.one 4 (by kernel_rfl) ?_
    refine AO.read rfl gnone rfl hH56 (.cons _ (.cons_cons _ (.cons_cons _ (.cons _ (.cons _ (List.Sublist.refl _)))))) (run_ld Try.underlying58 rfl rfl (hH56.cell (i := 3) rfl rfl)) ?_
    refine AN.one 7 (by kernel_rfl) ?_
    refine AO.appE (y0 := U b) rfl gnone rfl hH56 (i := 4) rfl hkW (fun _ _ => (.cons _ (.cons_cons _ (.cons_cons _ (.cons _ (.cons _ (List.Sublist.refl _))))))) (hH56.slBlk (i := 0) (n := 1) (sz := 1) rfl rfl (by decide)) rfl rfl Try.underlying58 rfl rfl rfl (bytes := 8) rfl rfl rfl (by simp only [List.length_map, maxLen]; omega) (by simp only [List.length_map, maxLen]; omega) ?_
    intro v62 w63 hH64
    simp only [List.set_cons_zero, List.set_cons_succ] at hH64
    rw [map_snocU] at hH64
    refine AN.take 8 rfl rfl (by kernel_rfl) (by kernel_rfl) (by kernel_rfl) (hH64.sub (.cons _ (.cons_cons _ (.cons_cons _ (.cons _ (.cons _ (List.Sublist.refl _))))))) (fun w hS => run_nilCheck rfl) ?_
    refine AN.take 9 rfl rfl (by kernel_rfl) (by kernel_rfl) (by kernel_rfl) (hH64.sub (.cons _ (.cons_cons _ (.cons_cons _ (.cons _ (.cons _ (List.Sublist.refl _))))))) (fun w hS => run_fieldAddr Try.underlying61 rfl (off := 0) rfl Try.sizeOf58 (by decide) rfl) ?_
    refine AN.one 10 (by kernel_rfl) ?_
    refine AO.set rfl gnone hH64 (j := 3) rfl (.cons _ (.cons_cons _ (.cons_cons _ (.cons _ (.cons _ (List.Sublist.refl _)))))) (run_st rfl rfl (v := v62) rfl (one_sl (hH64.slU (i := 4) rfl trivial)).2 (one_sl (hH64.slU (i := 4) rfl trivial)).1 (hH64.blk (i := 3) rfl) (by simp)) ?_
    intro w67 hH68
    simp only [List.set_cons_zero, List.set_cons_succ] at hH68
    refine AN.done (by kernel_rfl) ?_
    refine CW.seq ?_
    refine CW.regionS (by kernel_rfl) hH68 (.cons_cons _ (.cons_cons _ (.cons_cons _ (.cons _ (.cons_cons _ (.cons _ (List.Sublist.refl _))))))) ?_
    intro w69 hH70
    refine AN.take 0 rfl rfl (by kernel_rfl) (by kernel_rfl) (by kernel_rfl) (hH70.sub (.cons_cons _ (.cons_cons _ (.cons_cons _ (.cons _ (.cons_cons _ (.cons _ (List.Sublist.refl _)))))))) (fun w hS => run_ld Try.underlying78 rfl rfl (hS.cell (i := 2) rfl (v := .pointer (some ⟨_, _, none⟩)) rfl)) ?_
    refine AN.take 1 rfl rfl (by kernel_rfl) (by kernel_rfl) (by kernel_rfl) (hH70.sub (.cons_cons _ (.cons_cons _ (.cons_cons _ (.cons _ (.cons_cons _ (.cons _ (List.Sublist.refl _)))))))) (fun w hS => run_ld Try.underlying78 rfl rfl (hS.cell (i := 2) rfl (v := .pointer (some ⟨_, _, none⟩)) rfl)) ?_
    refine AN.take 2 rfl rfl (by kernel_rfl) (by kernel_rfl) (by kernel_rfl) (hH70.sub (.cons_cons _ (.cons_cons _ (.cons_cons _ (.cons _ (.cons_cons _ (.cons _ (List.Sublist.refl _)))))))) (fun w hS => run_nilCheck rfl) ?_
    refine AN.take 3 rfl rfl (by kernel_rfl) (by kernel_rfl) (by kernel_rfl) (hH70.sub (.cons_cons _ (.cons_cons _ (.cons_cons _ (.cons _ (.cons_cons _ (.cons _ (List.Sublist.refl _)))))))) (fun w hS => run_fieldAddr Try.underlying61 rfl (off := 1) rfl Try.sizeOf59 (by decide) rfl) ?_
    refine AN.take 5 rfl rfl (by kernel_rfl) (by kernel_rfl) (by kernel_rfl) (hH70.sub (.cons_cons _ (.cons_cons _ (.cons_cons _ (.cons _ (.cons_cons _ (.cons _ (List.Sublist.refl _)))))))) (fun w hS => run_mkF2 (by conv => lhs; whnf) (by conv => lhs; whnf)) ?_
    refine AN.two 4 6 (by kernel_rfl) ?_ ?_
    · refine AO.read rfl gnone rfl hH70 (.cons_cons _ (.cons_cons _ (.cons_cons _ (.cons _ (.cons_cons _ (.cons _ (List.Sublist.refl _))))))) (run_ld Try.underlying59 rfl rfl (hH70.cell (i := 3) rfl rfl)) ?_
      refine AN.one 6 (by kernel_rfl) ?_
      refine AO.new rfl gnone rfl hH70 (.cons_cons _ (.cons_cons _ (.cons_cons _ (.cons _ (.cons_cons _ (.cons _ (List.Sublist.refl _))))))) (f := fun b => .slice (some ⟨b, 0, none⟩) 1 1) (run_mkL Try.underlying59 rfl rfl (sz := 1) (vs := [.func _ _ _]) rfl rfl (by decide) (by decide) rfl rfl) ?_
      intro b75 w73 hH74
      (try simp only [List.flatMap_cons, List.flatMap_nil, clI, clB, clS, clP, clL, clA, List.append_nil, List.cons_append, List.nil_append] at hH74)
      refine AN.one 7 (by kernel_rfl) ?_
      refine AO.appE (y0 := .func (.func 40) #[] #[.pointer (some ⟨b3, 0, none⟩), .pointer (some ⟨b6, 0, none⟩)]) rfl gnone rfl hH74 (i := 6) rfl hkU (fun _ _ => (.cons _ (.cons_cons _ (.cons_cons _ (.cons_cons _ (.cons _ (.cons_cons _ (.cons _ (List.Sublist.refl _))))))))) (hH74.slBlk (i := 0) (n := 1) (sz := 1) rfl rfl (by decide)) rfl rfl Try.underlying59 rfl rfl rfl (bytes := 8) rfl rfl rfl (by simp only [List.length_map, maxLen]; omega) (by simp only [List.length_map, maxLen]; omega) ?_
      intro v78 w79 hH80
      simp only [List.set_cons_zero, List.set_cons_succ] at hH80
      rw [map_snocF (Und.add W.length)] at hH80
      refine AN.take 8 rfl rfl (by kernel_rfl) (by kernel_rfl) (by kernel_rfl) (hH80.sub (.cons _ (.cons_cons _ (.cons_cons _ (.cons_cons _ (.cons _ (.cons_cons _ (.cons _ (List.Sublist.refl _))))))))) (fun w hS => run_nilCheck rfl) ?_
      refine AN.take 9 rfl rfl (by kernel_rfl) (by kernel_rfl) (by kernel_rfl) (hH80.sub (.cons _ (.cons_cons _ (.cons_cons _ (.cons_cons _ (.cons _ (.cons_cons _ (.cons _ (List.Sublist.refl _))))))))) (fun w hS => run_fieldAddr Try.underlying61 rfl (off := 1) rfl Try.sizeOf59 (by decide) rfl) ?_
      refine AN.one 10 (by kernel_rfl) ?_
      refine AO.set rfl gnone hH80 (j := 4) rfl (.cons _ (.cons_cons _ (.cons_cons _ (.cons_cons _ (.cons _ (.cons_cons _ (.cons _ (List.Sublist.refl _)))))))) (run_st rfl rfl (v := v78) rfl (one_sl (hH80.slE (i := 6) rfl trivial)).2 (one_sl (hH80.slE (i := 6) rfl trivial)).1 (hH80.blk (i := 4) rfl) (by simp)) ?_
      intro w83 hH84
      simp only [List.set_cons_zero, List.set_cons_succ] at hH84
      refine AN.done (by kernel_rfl) ?_
      refine CW.seq ?_
      refine CW.region ?_
      refine RL.val rfl (run_ld Try.underlying3 rfl rfl (hH84.cell (i := 2) rfl (v := I _) rfl)) ?_
      refine RL.val rfl (run_assign (v := I _) rfl) ?_
      refine RL.nil ?_
      refine CW.ret ?_
      refine out1 Try.results27 (v := I W.length) rfl ⟨rfl, v62, none, v78, none, (ul ++ [(.func (.func 40) #[] #[.pointer (some ⟨b3, 0, none⟩), .pointer (some ⟨b6, 0, none⟩)], Und.add W.length)]), [Ent.blk b3 (.cells #[.pointer (some ⟨F, 0, none⟩)] 78 (0, 0)), Ent.blk b6 (.cells #[I W.length] 3 (0, 0))], trivial, trivial, ?_, ?_, ?_, ?_, (hH84.perm (((List.Perm.cons _ ((List.Perm.cons _ ((List.Perm.cons _ ((List.Perm.cons _ (List.Perm.refl _)).trans (List.Perm.swap _ _ _))).trans (List.Perm.swap _ _ _))).trans (List.Perm.swap _ _ _))).trans (List.Perm.swap _ _ _)).trans (List.Perm.cons _ (((List.Perm.cons _ ((List.Perm.cons _ ((List.Perm.cons _ ((List.Perm.cons _ (List.Perm.refl _)).trans (List.Perm.swap _ _ _))).trans (List.Perm.swap _ _ _))).trans (List.Perm.swap _ _ _))).trans (List.Perm.swap _ _ _)).trans (List.Perm.cons _ (((List.Perm.cons _ ((List.Perm.cons _ ((List.Perm.cons _ ((List.Perm.cons _ (List.Perm.refl _)).trans (List.Perm.swap _ _ _))).trans (List.Perm.swap _ _ _))).trans (List.Perm.swap _ _ _))).trans (List.Perm.swap _ _ _)).trans (List.Perm.cons _ (((List.Perm.cons _ ((List.Perm.cons _ ((List.Perm.cons _ (List.Perm.refl _)).trans (List.Perm.swap _ _ _))).trans (List.Perm.swap _ _ _))).trans (List.Perm.swap _ _ _)).trans (List.Perm.cons _ (((List.Perm.cons _ ((List.Perm.cons _ (List.Perm.refl _)).trans (List.Perm.swap _ _ _))).trans (List.Perm.swap _ _ _)).trans (List.Perm.cons _ (List.Perm.refl _)))))))))))).sub (.cons_cons _ (.cons_cons _ (.cons_cons _ (.cons_cons _ (.cons_cons _ (.cons _ (.cons _ (List.Sublist.refl _))))))))⟩
      · simp
      · simp
      · simp
      · intro x hx; rw [List.drop_left, List.mem_singleton] at hx; subst hx; exact ⟨_, _, rfl, by simp, by simp⟩
    · refine AO.new rfl gnone rfl hH70 (.cons_cons _ (.cons_cons _ (.cons_cons _ (.cons _ (.cons_cons _ (.cons _ (List.Sublist.refl _))))))) (f := fun b => .slice (some ⟨b, 0, none⟩) 1 1) (run_mkL Try.underlying59 rfl rfl (sz := 1) (vs := [.func _ _ _]) rfl rfl (by decide) (by decide) rfl rfl) ?_
      intro b87 w85 hH86
      (try simp only [List.flatMap_cons, List.flatMap_nil, clI, clB, clS, clP, clL, clA, List.append_nil, List.cons_append, List.nil_append] at hH86)
      refine AN.one 4 (by kernel_rfl) ?_
      refine AO.read rfl gnone rfl hH86 (.cons _ (.cons_cons _ (.cons_cons _ (.cons_cons _ (.cons _ (.cons_cons _ (.cons _ (List.Sublist.refl _)))))))) (run_ld Try.underlying59 rfl rfl (hH86.cell (i := 4) rfl rfl)) ?_
      refine AN.one 7 (by kernel_rfl) ?_
      refine AO.appE (y0 := .func (.func 40) #[] #[.pointer (some ⟨b3, 0, none⟩), .pointer (some ⟨b6, 0, none⟩)]) rfl gnone rfl hH86 (i := 6) rfl hkU (fun _ _ => (.cons _ (.cons_cons _ (.cons_cons _ (.cons_cons _ (.cons _ (.cons_cons _ (.cons _ (List.Sublist.refl _))))))))) (hH86.slBlk (i := 0) (n := 1) (sz := 1) rfl rfl (by decide)) rfl rfl Try.underlying59 rfl rfl rfl (bytes := 8) rfl rfl rfl (by simp only [List.length_map, maxLen]; omega) (by simp only [List.length_map, maxLen]; omega) ?_
      intro v92 w93 hH94
      simp only [List.set_cons_zero, List.set_cons_succ] at hH94
      rw [map_snocF (Und.add W.length)] at hH94
      refine AN.take 8 rfl rfl (by kernel_rfl) (by kernel_rfl) (by kernel_rfl) (hH94.sub (.cons _ (.cons_cons _ (.cons_cons _ (.cons_cons _ (.cons _ (.cons_cons _ (.cons _ (List.Sublist.refl _))))))))) (fun w hS => run_nilCheck rfl) ?_
      refine AN.take 9 rfl rfl (by kernel_rfl) (by kernel_rfl) (by kernel_rfl) (hH94.sub (.cons _ (.cons_cons _ (.cons_cons _ (.cons_cons _ (.cons _ (.cons_cons _ (.cons _ (List.Sublist.refl _))))))))) (fun w hS => run_fieldAddr Try.underlying61 rfl (off := 1) rfl Try.sizeOf59 (by decide) rfl) ?_
      refine AN.one 10 (by kernel_rfl) ?_
      refine AO.set rfl gnone hH94 (j := 4) rfl (.cons _ (.cons_cons _ (.cons_cons _ (.cons_cons _ (.cons _ (.cons_cons _ (.cons _ (List.Sublist.refl _)))))))) (run_st rfl rfl (v := v92) rfl (one_sl (hH94.slE (i := 6) rfl trivial)).2 (one_sl (hH94.slE (i := 6) rfl trivial)).1 (hH94.blk (i := 4) rfl) (by simp)) ?_
      intro w97 hH98
      simp only [List.set_cons_zero, List.set_cons_succ] at hH98
      refine AN.done (by kernel_rfl) ?_
      refine CW.seq ?_
      refine CW.region ?_
      refine RL.val rfl (run_ld Try.underlying3 rfl rfl (hH98.cell (i := 2) rfl (v := I _) rfl)) ?_
      refine RL.val rfl (run_assign (v := I _) rfl) ?_
      refine RL.nil ?_
      refine CW.ret ?_
      refine out1 Try.results27 (v := I W.length) rfl ⟨rfl, v62, none, v92, none, (ul ++ [(.func (.func 40) #[] #[.pointer (some ⟨b3, 0, none⟩), .pointer (some ⟨b6, 0, none⟩)], Und.add W.length)]), [Ent.blk b3 (.cells #[.pointer (some ⟨F, 0, none⟩)] 78 (0, 0)), Ent.blk b6 (.cells #[I W.length] 3 (0, 0))], trivial, trivial, ?_, ?_, ?_, ?_, (hH98.perm (((List.Perm.cons _ ((List.Perm.cons _ ((List.Perm.cons _ ((List.Perm.cons _ (List.Perm.refl _)).trans (List.Perm.swap _ _ _))).trans (List.Perm.swap _ _ _))).trans (List.Perm.swap _ _ _))).trans (List.Perm.swap _ _ _)).trans (List.Perm.cons _ (((List.Perm.cons _ ((List.Perm.cons _ ((List.Perm.cons _ ((List.Perm.cons _ (List.Perm.refl _)).trans (List.Perm.swap _ _ _))).trans (List.Perm.swap _ _ _))).trans (List.Perm.swap _ _ _))).trans (List.Perm.swap _ _ _)).trans (List.Perm.cons _ (((List.Perm.cons _ ((List.Perm.cons _ ((List.Perm.cons _ ((List.Perm.cons _ (List.Perm.refl _)).trans (List.Perm.swap _ _ _))).trans (List.Perm.swap _ _ _))).trans (List.Perm.swap _ _ _))).trans (List.Perm.swap _ _ _)).trans (List.Perm.cons _ (((List.Perm.cons _ ((List.Perm.cons _ ((List.Perm.cons _ (List.Perm.refl _)).trans (List.Perm.swap _ _ _))).trans (List.Perm.swap _ _ _))).trans (List.Perm.swap _ _ _)).trans (List.Perm.cons _ (((List.Perm.cons _ ((List.Perm.cons _ (List.Perm.refl _)).trans (List.Perm.swap _ _ _))).trans (List.Perm.swap _ _ _)).trans (List.Perm.cons _ (List.Perm.refl _)))))))))))).sub (.cons_cons _ (.cons_cons _ (.cons_cons _ (.cons_cons _ (.cons_cons _ (.cons _ (.cons _ (List.Sublist.refl _))))))))⟩
      · simp
      · simp
      · simp
      · intro x hx; rw [List.drop_left, List.mem_singleton] at hx; subst hx; exact ⟨_, _, rfl, by simp, by simp⟩
theorem c_cells_Cells_Set (W0 : World) (F : Nat) (vW vU vT : Value) (cnt : Int) (cW cU : Option (Nat × Array Value)) (W : List (BitVec 64)) (ul : List (Value × Und)) (L : List Ent) (i : Int) (b : BitVec 64) (hwl : W.length ≤ 4000000) (hul : ul.length ≤ 4000000) (hi : 0 ≤ i ∧ i < W.length) (w : World) (hkW : cO cW vW (W.map U)) (hkU : cO cU vU (ul.map Prod.fst)) (hH : Hp W0 w (.blk F (.cells #[vW, vU, vT, I (cnt)] 65 (0, 0)) :: cE cW vW 28 (W.map U) :: cE cU vU 1 (ul.map Prod.fst) :: L)) : Calls Try.prog 42 #[.pointer (some ⟨F, 0, none⟩), I i, U b] w (Ret fun u w' => u = B true ∧ ∃ (v' : Value) (c' : Option (Nat × Array Value)) (v2 : Value) (c2 : Option (Nat × Array Value)) (ul' : List (Value × Und)) (Lb : List Ent), cO c' v' ((W.set i.toNat b).map U) ∧ cO c2 v2 (ul'.map Prod.fst) ∧ ul'.map Prod.snd = setU W (ul.map Prod.snd) i.toNat b ∧ ul'.take ul.length = ul ∧ ul'.length ≤ ul.length + 1 ∧ (∀ x ∈ ul'.drop ul.length, UndIn (⟨40, 47, 78, 3, 28⟩ : UT) F Lb x) ∧ Hp W0 w' (.blk F (.cells #[v', v2, vT, I (cnt)] 65 (0, 0)) :: cE c' v' 28 ((W.set i.toNat b).map U) :: cE c2 v2 1 (ul'.map Prod.fst) :: (Lb ++ L))) := by
  refine enter Try.func42 rfl Try.ntmps42 rfl ?_
  refine CW.seq ?_
  refine CW.region ?_
  refine RL.new rfl hH (f := fun b => (.pointer (some ⟨b, 0, none⟩))) (run_box (v := .pointer (some ⟨_, _, none⟩)) rfl) ?_
  intro b3 w1 hH2
  refine RL.new rfl hH2 (f := fun b => (.pointer (some ⟨b, 0, none⟩))) (run_box (v := I _) rfl) ?_
  intro b6 w4 hH5
  refine RL.val rfl (run_assign (v := B false) rfl) ?_
  refine RL.nil ?_
  refine CW.seq ?_
  refine CW.seq ?_
  refine CW.region ?_
  refine RL.val rfl (run_ld Try.underlying78 rfl rfl (hH5.cell (i := 1) rfl (v := .pointer (some ⟨_, _, none⟩)) rfl)) ?_
  refine RL.val rfl (run_ld Try.underlying3 rfl rfl (hH5.cell (i := 0) rfl (v := I _) rfl)) ?_
  refine RL.callP rfl hH5 (c_cells_Cells_is _ _ _ _ _ _ _ _ (hH5.blk (i := 2) rfl) (hH5.slU (i := 3) rfl hkW)) (run_call2 Try.call46 rfl rfl) ?_
  intro w7 hH8
  refine RL.val rfl (run_not (bT (hi))) ?_
  refine RL.nil ?_
  refine CW.condF rfl ?_
  refine CW.skip ?_
  refine CW.seq ?_
  refine CW.regionD (by kernel_rfl) hH8 ?_
  intro w11 hH12
  refine AN.take 0 rfl rfl (by kernel_rfl) (by kernel_rfl) (by kernel_rfl) (hH12.sub (List.Sublist.refl _)) (fun w hS => run_ld Try.underlying78 rfl rfl (hS.cell (i := 1) rfl (v := .pointer (some ⟨_, _, none⟩)) rfl)) ?_
  refine AN.take 1 rfl rfl (by kernel_rfl) (by kernel_rfl) (by kernel_rfl) (hH12.sub (List.Sublist.refl _)) (fun w hS => run_nilCheck rfl) ?_
  refine AN.take 2 rfl rfl (by kernel_rfl) (by kernel_rfl) (by kernel_rfl) (hH12.sub (List.Sublist.refl _)) (fun w hS => run_fieldAddr Try.underlying61 rfl (off := 0) rfl Try.sizeOf58 (by decide) rfl) ?_
  refine AN.take 3 rfl rfl (by kernel_rfl) (by kernel_rfl) (by kernel_rfl) (hH12.sub (List.Sublist.refl _)) (fun w hS => run_ld Try.underlying58 rfl rfl (hS.cell (i := 2) rfl rfl)) ?_
  refine AN.take 4 rfl rfl (by kernel_rfl) (by kernel_rfl) (by kernel_rfl) (hH12.sub (List.Sublist.refl _)) (fun w hS => run_ld Try.underlying3 rfl rfl (hS.cell (i := 0) rfl (v := I _) rfl)) ?_
  refine AN.take 5 rfl rfl (by kernel_rfl) (by kernel_rfl) (by kernel_rfl) (hH12.sub (List.Sublist.refl _)) (fun w hS => run_indexAddrS (hS.slU (i := 3) rfl hkW) Try.underlying58 Try.sizeOf28 rfl rfl (by omega)) ?_
  refine AN.take 6 rfl rfl (by kernel_rfl) (by kernel_rfl) (by kernel_rfl) (hH12.sub (List.Sublist.refl _)) (fun w hS => run_ld Try.underlying28 rfl rfl (Sl.atU (hS.slU (i := 3) rfl hkW) (by omega) (by omega))) ?_
  refine AN.one 7 (by kernel_rfl) ?_
  refine AO.new rfl gnone rfl hH12 (List.Sublist.refl _) (f := fun b => .pointer (some ⟨b, 0, none⟩)) (run_alloc Try.zeroValue28) ?_
  intro b15 w13 hH14
  refine AN.one 8 (by kernel_rfl) ?_
  refine AO.set rfl gnone hH14 (j := 0) rfl (.cons _ (List.Sublist.refl _)) (run_st rfl rfl (v := U _) rfl rfl rfl (hH14.blk (i := 0) rfl) (by decide)) ?_
  intro w16 hH17
  simp only [List.set_cons_zero, List.set_cons_succ] at hH17
  refine AN.done (by kernel_rfl) ?_
  refine CW.seq ?_
  refine CW.seq ?_
  refine CW.region ?_
  refine RL.val rfl (run_ld Try.underlying28 rfl rfl (hH17.cell (i := 0) rfl (v := U _) rfl)) ?_
  refine RL.val rfl (run_move (v := U _) rfl) ?_
  refine RL.val rfl (run_neqU rfl rfl) ?_
  refine RL.nil ?_
  refine CW.condP rfl (fun h19 => ?_) (fun h19 => ?_)
  · refine CW.seq ?_
    refine CW.regionS (by kernel_rfl) hH17 (.cons_cons _ (.cons_cons _ (.cons_cons _ (.cons_cons _ (.cons _ (List.Sublist.refl _)))))) ?_
    intro w20 hH21
    refine AN.take 0 rfl rfl (by kernel_rfl) (by kernel_rfl) (by kernel_rfl) (hH21.sub (.cons_cons _ (.cons_cons _ (.cons_cons _ (.cons_cons _ (.cons _ (List.Sublist.refl _))))))) (fun w hS => run_ld Try.underlying78 rfl rfl (hS.cell (i := 2) rfl (v := .pointer (some ⟨_, _, none⟩)) rfl)) ?_
    refine AN.take 1 rfl rfl (by kernel_rfl) (by kernel_rfl) (by kernel_rfl) (hH21.sub (.cons_cons _ (.cons_cons _ (.cons_cons _ (.cons_cons _ (.cons _ (List.Sublist.refl _))))))) (fun w hS => run_nilCheck rfl) ?_
    refine AN.take 2 rfl rfl (by kernel_rfl) (by kernel_rfl) (by kernel_rfl) (hH21.sub (.cons_cons _ (.cons_cons _ (.cons_cons _ (.cons_cons _ (.cons _ (List.Sublist.refl _))))))) (fun w hS => run_fieldAddr Try.underlying61 rfl (off := 0) rfl Try.sizeOf58 (by decide) rfl) ?_
    refine AN.take 3 rfl rfl (by kernel_rfl) (by kernel_rfl) (by kernel_rfl) (hH21.sub (.cons_cons _ (.cons_cons _ (.cons_cons _ (.cons_cons _ (.cons _ (List.Sublist.refl _))))))) (fun w hS => run_ld Try.underlying58 rfl rfl (hS.cell (i := 3) rfl rfl)) ?_
    refine AN.take 4 rfl rfl (by kernel_rfl) (by kernel_rfl) (by kernel_rfl) (hH21.sub (.cons_cons _ (.cons_cons _ (.cons_cons _ (.cons_cons _ (.cons _ (List.Sublist.refl _))))))) (fun w hS => run_ld Try.underlying3 rfl rfl (hS.cell (i := 1) rfl (v := I _) rfl)) ?_
    refine AN.take 5 rfl rfl (by kernel_rfl) (by kernel_rfl) (by kernel_rfl) (hH21.sub (.cons_cons _ (.cons_cons _ (.cons_cons _ (.cons_cons _ (.cons _ (List.Sublist.refl _))))))) (fun w hS => run_move (v := U _) rfl) ?_
    refine AN.one 6 (by kernel_rfl) ?_
    refine AO.read rfl gnone rfl hH21 (.cons_cons _ (.cons_cons _ (.cons_cons _ (.cons_cons _ (.cons _ (List.Sublist.refl _)))))) (run_indexAddrS (hH21.slU (i := 4) rfl hkW) Try.underlying58 Try.sizeOf28 rfl rfl (by omega)) ?_
    refine AN.one 7 (by kernel_rfl) ?_
    refine AO.stE (u := U _) rfl gnone hH21 (i := 4) rfl hkW (fun _ _ => (.cons_cons _ (.cons_cons _ (.cons_cons _ (.cons_cons _ (.cons _ (List.Sublist.refl _))))))) (by simp only [List.length_map]; omega) rfl rfl rfl rfl rfl ?_
    intro c26 w28 hk27 hH29
    simp only [List.set_cons_zero, List.set_cons_succ, set_mapU] at hH29 hk27
    refine AN.done (by kernel_rfl) ?_
    refine CW.regionS (by kernel_rfl) hH29 (.cons_cons _ (.cons_cons _ (.cons_cons _ (.cons _ (.cons_cons _ (.cons _ (List.Sublist.refl _))))))) ?_
    intro w30 hH31
    refine AN.take 0 rfl rfl (by kernel_rfl) (by kernel_rfl) (by kernel_rfl) (hH31.sub (.cons_cons _ (.cons_cons _ (.cons_cons _ (.cons _ (.cons_cons _ (.cons _ (List.Sublist.refl _)))))))) (fun w hS => run_ld Try.underlying78 rfl rfl (hS.cell (i := 2) rfl (v := .pointer (some ⟨_, _, none⟩)) rfl)) ?_
    refine AN.take 1 rfl rfl (by kernel_rfl) (by kernel_rfl) (by kernel_rfl) (hH31.sub (.cons_cons _ (.cons_cons _ (.cons_cons _ (.cons _ (.cons_cons _ (.cons _ (List.Sublist.refl _)))))))) (fun w hS => run_ld Try.underlying78 rfl rfl (hS.cell (i := 2) rfl (v := .pointer (some ⟨_, _, none⟩)) rfl)) ?_
    refine AN.take 2 rfl rfl (by kernel_rfl) (by kernel_rfl) (by kernel_rfl) (hH31.sub (.cons_cons _ (.cons_cons _ (.cons_cons _ (.cons _ (.cons_cons _ (.cons _ (List.Sublist.refl _)))))))) (fun w hS => run_nilCheck rfl) ?_
    refine AN.take 3 rfl rfl (by kernel_rfl) (by kernel_rfl) (by kernel_rfl) (hH31.sub (.cons_cons _ (.cons_cons _ (.cons_cons _ (.cons _ (.cons_cons _ (.cons _ (List.Sublist.refl _)))))))) (fun w hS => run_fieldAddr Try.underlying61 rfl (off := 1) rfl Try.sizeOf59 (by decide) rfl) ?_
    refine AN.take 5 rfl rfl (by kernel_rfl) (by kernel_rfl) (by kernel_rfl) (hH31.sub (.cons_cons _ (.cons_cons _ (.cons_cons _ (.cons _ (.cons_cons _ (.cons _ (List.Sublist.refl _)))))))) (fun w hS => run_mkF3 (by conv => lhs; whnf) (by conv => lhs; whnf) (by conv => lhs; whnf)) ?_
    refine AN.two 4 6 (by kernel_rfl) ?_ ?_
    · refine AO.read rfl gnone rfl hH31 (.cons_cons _ (.cons_cons _ (.cons_cons _ (.cons _ (.cons_cons _ (.cons _ (List.Sublist.refl _))))))) (run_ld Try.underlying59 rfl rfl (hH31.cell (i := 3) rfl rfl)) ?_
      refine AN.one 6 (by kernel_rfl) ?_
      refine AO.new rfl gnone rfl hH31 (.cons_cons _ (.cons_cons _ (.cons_cons _ (.cons _ (.cons_cons _ (.cons _ (List.Sublist.refl _))))))) (f := fun b => .slice (some ⟨b, 0, none⟩) 1 1) (run_mkL Try.underlying59 rfl rfl (sz := 1) (vs := [.func _ _ _]) rfl rfl (by decide) (by decide) rfl rfl) ?_
      intro b36 w34 hH35
      (try simp only [List.flatMap_cons, List.flatMap_nil, clI, clB, clS, clP, clL, clA, List.append_nil, List.cons_append, List.nil_append] at hH35)
      refine AN.one 7 (by kernel_rfl) ?_
      refine AO.appE (y0 := .func (.func 47) #[] #[.pointer (some ⟨b15, 0, none⟩), .pointer (some ⟨b3, 0, none⟩), .pointer (some ⟨b6, 0, none⟩)]) rfl gnone rfl hH35 (i := 6) rfl hkU (fun _ _ => (.cons _ (.cons_cons _ (.cons_cons _ (.cons_cons _ (.cons _ (.cons_cons _ (.cons _ (List.Sublist.refl _))))))))) (hH35.slBlk (i := 0) (n := 1) (sz := 1) rfl rfl (by decide)) rfl rfl Try.underlying59 rfl rfl rfl (bytes := 8) rfl rfl rfl (by simp only [List.length_map, maxLen]; omega) (by simp only [List.length_map, maxLen]; omega) ?_
      intro v39 w40 hH41
      simp only [List.set_cons_zero, List.set_cons_succ] at hH41
      rw [map_snocF (Und.set i.toNat (W.getD i.toNat 0))] at hH41
      refine AN.take 8 rfl rfl (by kernel_rfl) (by kernel_rfl) (by kernel_rfl) (hH41.sub (.cons _ (.cons_cons _ (.cons_cons _ (.cons_cons _ (.cons _ (.cons_cons _ (.cons _ (List.Sublist.refl _))))))))) (fun w hS => run_nilCheck rfl) ?_
      refine AN.take 9 rfl rfl (by kernel_rfl) (by kernel_rfl) (by kernel_rfl) (hH41.sub (.cons _ (.cons_cons _ (.cons_cons _ (.cons_cons _ (.cons _ (.cons_cons _ (.cons _ (List.Sublist.refl _))))))))) (fun w hS => run_fieldAddr Try.underlying61 rfl (off := 1) rfl Try.sizeOf59 (by decide) rfl) ?_
      refine AN.one 10 (by kernel_rfl) ?_
      refine AO.set rfl gnone hH41 (j := 4) rfl (.cons _ (.cons_cons _ (.cons_cons _ (.cons_cons _ (.cons _ (.cons_cons _ (.cons _ (List.Sublist.refl _)))))))) (run_st rfl rfl (v := v39) rfl (one_sl (hH41.slE (i := 6) rfl trivial)).2 (one_sl (hH41.slE (i := 6) rfl trivial)).1 (hH41.blk (i := 4) rfl) (by simp)) ?_
      intro w44 hH45
      simp only [List.set_cons_zero, List.set_cons_succ] at hH45
      refine AN.done (by kernel_rfl) ?_
      refine CW.seq ?_
      refine CW.region ?_
      refine RL.val rfl (run_assign (v := B true) rfl) ?_
      refine RL.nil ?_
      refine CW.ret ?_
      refine out1 Try.results42 (v := B true) rfl ⟨rfl, vW, c26, v39, none, (ul ++ [(.func (.func 47) #[] #[.pointer (some ⟨b15, 0, none⟩), .pointer (some ⟨b3, 0, none⟩), .pointer (some ⟨b6, 0, none⟩)], Und.set i.toNat (W.getD i.toNat 0))]), [Ent.blk b15 (.cells #[U (W.getD i.toNat 0)] 28 (0, 0)), Ent.blk b3 (.cells #[.pointer (some ⟨F, 0, none⟩)] 78 (0, 0)), Ent.blk b6 (.cells #[I i] 3 (0, 0))], hk27, trivial, ?_, ?_, ?_, ?_, (hH45.perm (((List.Perm.cons _ ((List.Perm.cons _ ((List.Perm.cons _ ((List.Perm.cons _ (List.Perm.refl _)).trans (List.Perm.swap _ _ _))).trans (List.Perm.swap _ _ _))).trans (List.Perm.swap _ _ _))).trans (List.Perm.swap _ _ _)).trans (List.Perm.cons _ (((List.Perm.cons _ ((List.Perm.cons _ ((List.Perm.cons _ ((List.Perm.cons _ (List.Perm.refl _)).trans (List.Perm.swap _ _ _))).trans (List.Perm.swap _ _ _))).trans (List.Perm.swap _ _ _))).trans (List.Perm.swap _ _ _)).trans (List.Perm.cons _ (((List.Perm.cons _ ((List.Perm.cons _ ((List.Perm.cons _ ((List.Perm.cons _ (List.Perm.refl _)).trans (List.Perm.swap _ _ _))).trans (List.Perm.swap _ _ _))).trans (List.Perm.swap _ _ _))).trans (List.Perm.swap _ _ _)).trans (List.Perm.cons _ (((List.Perm.cons _ (List.Perm.refl _)).trans (List.Perm.swap _ _ _)).trans (List.Perm.cons _ (((List.Perm.cons _ ((List.Perm.cons _ (List.Perm.refl _)).trans (List.Perm.swap _ _ _))).trans (List.Perm.swap _ _ _)).trans (List.Perm.cons _ (((List.Perm.cons _ (List.Perm.refl _)).trans (List.Perm.swap _ _ _)).trans (List.Perm.cons _ (List.Perm.refl _)))))))))))))).sub (.cons_cons _ (.cons_cons _ (.cons_cons _ (.cons_cons _ (.cons_cons _ (.cons_cons _ (.cons _ (List.Sublist.refl _))))))))⟩
      · (rw [setU, if_neg ‹_ ≠ b›]; simp; done)
      · simp
      · simp
      · (intro x hx; rw [List.drop_left, List.mem_singleton] at hx; subst hx; exact ⟨_, _, _, rfl, by simp, by simp, by simp [Int.toNat_of_nonneg hi.1]⟩)
    · refine AO.new rfl gnone rfl hH31 (.cons_cons _ (.cons_cons _ (.cons_cons _ (.cons _ (.cons_cons _ (.cons _ (List.Sublist.refl _))))))) (f := fun b => .slice (some ⟨b, 0, none⟩) 1 1) (run_mkL Try.underlying59 rfl rfl (sz := 1) (vs := [.func _ _ _]) rfl rfl (by decide) (by decide) rfl rfl) ?_
      intro b48 w46 hH47
      (try simp only [List.flatMap_cons, List.flatMap_nil, clI, clB, clS, clP, clL, clA, List.append_nil, List.cons_append, List.nil_append] at hH47)
      refine AN.one 4 (by kernel_rfl) ?_
      refine AO.read rfl gnone rfl hH47 (.cons _ (.cons_cons _ (.cons_cons _ (.cons_cons _ (.cons _ (.cons_cons _ (.cons _ (List.Sublist.refl _)))))))) (run_ld Try.underlying59 rfl rfl (hH47.cell (i := 4) rfl rfl)) ?_
      refine AN.one 7 (by kernel_rfl) ?_
      refine AO.appE (y0 := .func (.func 47) #[] #[.pointer (some ⟨b15, 0, none⟩), .pointer (some ⟨b3, 0, none⟩), .pointer (some ⟨b6, 0, none⟩)]) rfl gnone rfl hH47 (i := 6) rfl hkU (fun _ _ => (.cons _ (.cons_cons _ (.cons_cons _ (.cons_cons _ (.cons _ (.cons_cons _ (.cons _ (List.Sublist.refl _))))))))) (hH47.slBlk (i := 0) (n := 1) (sz := 1) rfl rfl (by decide)) rfl rfl Try.underlying59 rfl rfl rfl (bytes := 8) rfl rfl rfl (by simp only [List.length_map, maxLen]; omega) (by simp only [List.length_map, maxLen]; omega) ?_
      intro v53 w54 hH55
      simp only [List.set_cons_zero, List.set_cons_succ] at hH55
      rw [map_snocF (Und.set i.toNat (W.getD i.toNat 0))] at hH55
      refine AN.take 8 rfl rfl (by kernel_rfl) (by kernel_rfl) (by kernel_rfl) (hH55.sub (.cons _ (.cons_cons _ (.cons_cons _ (.cons_cons _ (.cons _ (.cons_cons _ (.cons _ (List.Sublist.refl _))))))))) (fun w hS => run_nilCheck rfl) ?_
      refine AN.take 9 rfl rfl (by kernel_rfl) (by kernel_rfl) (by kernel_rfl) (hH55.sub (.cons _ (.cons_cons _ (.cons_cons _ (.cons_cons _ (.cons _ (.cons_cons _ (.cons _ (List.Sublist.refl _))))))))) (fun w hS => run_fieldAddr Try.underlying61 rfl (off := 1) rfl Try.sizeOf59 (by decide) rfl) ?_
      refine AN.one 10 (by kernel_rfl) ?_
      refine AO.set rfl gnone hH55 (j := 4) rfl (.cons _ (.cons_cons _ (.cons_cons _ (.cons_cons _ (.cons _ (.cons_cons _ (.cons _ (List.Sublist.refl _)))))))) (run_st rfl rfl (v := v53) rfl (one_sl (hH55.slE (i := 6) rfl trivial)).2 (one_sl (hH55.slE (i := 6) rfl trivial)).1 (hH55.blk (i := 4) rfl) (by simp)) ?_
      intro w58 hH59
      simp only [List.set_cons_zero, List.set_cons_succ] at hH59
      refine AN.done (by kernel_rfl) ?_
      refine CW.seq ?_
      refine CW.region ?_
      refine RL.val rfl (run_assign (v := B true) rfl) ?_
      refine RL.nil ?_
      refine CW.ret ?_
      refine out1 Try.results42 (v := B true) rfl ⟨rfl, vW, c26, v53, none, (ul ++ [(.func (.func 47) #[] #[.pointer (some ⟨b15, 0, none⟩), .pointer (some ⟨b3, 0, none⟩), .pointer (some ⟨b6, 0, none⟩)], Und.set i.toNat (W.getD i.toNat 0))]), [Ent.blk b15 (.cells #[U (W.getD i.toNat 0)] 28 (0, 0)), Ent.blk b3 (.cells #[.pointer (some ⟨F, 0, none⟩)] 78 (0, 0)), Ent.blk b6 (.cells #[I i] 3 (0, 0))], hk27, trivial, ?_, ?_, ?_, ?_, (hH59.perm (((List.Perm.cons _ ((List.Perm.cons _ ((List.Perm.cons _ ((List.Perm.cons _ (List.Perm.refl _)).trans (List.Perm.swap _ _ _))).trans (List.Perm.swap _ _ _))).trans (List.Perm.swap _ _ _))).trans (List.Perm.swap _ _ _)).trans (List.Perm.cons _ (((List.Perm.cons _ ((List.Perm.cons _ ((List.Perm.cons _ ((List.Perm.cons _ (List.Perm.refl _)).trans (List.Perm.swap _ _ _))).trans (List.Perm.swap _ _ _))).trans (List.Perm.swap _ _ _))).trans (List.Perm.swap _ _ _)).trans (List.Perm.cons _ (((List.Perm.cons _ ((List.Perm.cons _ ((List.Perm.cons _ ((List.Perm.cons _ (List.Perm.refl _)).trans (List.Perm.swap _ _ _))).trans (List.Perm.swap _ _ _))).trans (List.Perm.swap _ _ _))).trans (List.Perm.swap _ _ _)).trans (List.Perm.cons _ (((List.Perm.cons _ (List.Perm.refl _)).trans (List.Perm.swap _ _ _)).trans (List.Perm.cons _ (((List.Perm.cons _ ((List.Perm.cons _ (List.Perm.refl _)).trans (List.Perm.swap _ _ _))).trans (List.Perm.swap _ _ _)).trans (List.Perm.cons _ (((List.Perm.cons _ (List.Perm.refl _)).trans (List.Perm.swap _ _ _)).trans (List.Perm.cons _ (List.Perm.refl _)))))))))))))).sub (.cons_cons _ (.cons_cons _ (.cons_cons _ (.cons_cons _ (.cons_cons _ (.cons_cons _ (.cons _ (List.Sublist.refl _))))))))⟩
      · (rw [setU, if_neg ‹_ ≠ b›]; simp; done)
      · simp
      · simp
      · (intro x hx; rw [List.drop_left, List.mem_singleton] at hx; subst hx; exact ⟨_, _, _, rfl, by simp, by simp, by simp [Int.toNat_of_nonneg hi.1]⟩)
  · refine CW.skip ?_
    refine CW.seq ?_
    refine CW.region ?_
    refine RL.val rfl (run_assign (v := B true) rfl) ?_
    refine RL.nil ?_
    refine CW.ret ?_
    rw [set_same (Decidable.not_not.1 ‹¬ _ ≠ b›)]
    refine out1 Try.results42 (v := B true) rfl ⟨rfl, vW, cW, vU, cU, ul, [], hkW, hkU, ?_, ?_, ?_, ?_, (hH17.perm (((List.Perm.cons _ ((List.Perm.cons _ ((List.Perm.cons _ (List.Perm.refl _)).trans (List.Perm.swap _ _ _))).trans (List.Perm.swap _ _ _))).trans (List.Perm.swap _ _ _)).trans (List.Perm.cons _ (((List.Perm.cons _ ((List.Perm.cons _ ((List.Perm.cons _ (List.Perm.refl _)).trans (List.Perm.swap _ _ _))).trans (List.Perm.swap _ _ _))).trans (List.Perm.swap _ _ _)).trans (List.Perm.cons _ (((List.Perm.cons _ ((List.Perm.cons _ ((List.Perm.cons _ (List.Perm.refl _)).trans (List.Perm.swap _ _ _))).trans (List.Perm.swap _ _ _))).trans (List.Perm.swap _ _ _)).trans (List.Perm.cons _ (List.Perm.refl _)))))))).sub (.cons_cons _ (.cons_cons _ (.cons_cons _ (.cons _ (.cons _ (.cons _ (List.Sublist.refl _)))))))⟩
    · (rw [setU, if_pos (Decidable.not_not.1 ‹¬ _ ≠ b›)])
    · simp
    · simp
    · (intro x hx; simp at hx)
theorem c_forest_nodes_put (W0 : World) (F : Nat) (vW vU vT : Value) (cnt : Int) (cW cU : Option (Nat × Array Value)) (W : List (BitVec 64)) (ul : List (Value × Und)) (L : List Ent) (i k to : Int) (hwl : W.length ≤ 4000000) (hul : ul.length ≤ 4000000) (hi : 0 ≤ i ∧ i < 1000000 ∧ 0 ≤ k ∧ k < 4 ∧ 4 * i + k < W.length) (w : World) (hkW : cO cW vW (W.map U)) (hkU : cO cU vU (ul.map Prod.fst)) (hH : Hp W0 w (.blk F (.cells #[vW, vU, vT, I (cnt)] 65 (0, 0)) :: cE cW vW 28 (W.map U) :: cE cU vU 1 (ul.map Prod.fst) :: L)) : Calls Try.prog 31 #[.pointer (some ⟨F, 0, none⟩), I i, I k, I to] w (Ret fun u w' => u = .tuple #[] ∧ ∃ (v' : Value) (c' : Option (Nat × Array Value)) (v2 : Value) (c2 : Option (Nat × Array Value)) (ul' : List (Value × Und)) (Lb : List Ent), cO c' v' ((W.set (4 * i + k).toNat (BitVec.ofInt 64 to)).map U) ∧ cO c2 v2 (ul'.map Prod.fst) ∧ ul'.map Prod.snd = setU W (ul.map Prod.snd) (4 * i + k).toNat (BitVec.ofInt 64 to) ∧ ul'.take ul.length = ul ∧ ul'.length ≤ ul.length + 1 ∧ (∀ x ∈ ul'.drop ul.length, UndIn (⟨40, 47, 78, 3, 28⟩ : UT) F Lb x) ∧ Hp W0 w' (.blk F (.cells #[v', v2, vT, I (cnt)] 65 (0, 0)) :: cE c' v' 28 ((W.set (4 * i + k).toNat (BitVec.ofInt 64 to)).map U) :: cE c2 v2 1 (ul'.map Prod.fst) :: (Lb ++ L))) := by
  refine enter Try.func31 rfl Try.ntmps31 rfl ?_
  refine CW.region ?_
  refine RL.val rfl (run_move (v := .pointer (some ⟨_, _, none⟩)) rfl) ?_
  refine RL.val rfl (run_nilCheck rfl) ?_
  refine RL.val rfl (run_fieldAddr Try.underlying63 rfl (off := 0) rfl Try.sizeOf61 (by decide) rfl) ?_
  refine RL.val rfl (run_move (v := I _) rfl) ?_
  refine RL.val rfl (run_mul rfl rfl (by omega)) ?_
  refine RL.val rfl (run_move (v := I _) rfl) ?_
  refine RL.val rfl (run_add rfl rfl (by omega)) ?_
  refine RL.val rfl (run_move (v := I _) rfl) ?_
  refine RL.val rfl (run_convIU Try.underlying3 Try.underlying28 rfl) ?_
  refine RL.callT rfl (c_cells_Cells_Set _ _ _ _ _ _ _ _ _ _ _ _ _ (by omega) (by omega) (by omega) _ hkW hkU hH) (run_call3 Try.call42 rfl rfl rfl) ?_
  rintro _ w3 ⟨rfl, v6, c7, u8, e9, ul10, Lb11, hk12, hu13, hm14, ht15, hl16, hd17, h4⟩
  refine RL.nil ?_
  exact out0 Try.results31 ⟨rfl, v6, c7, u8, e9, ul10, Lb11, hk12, hu13, hm14, ht15, hl16, hd17, h4⟩
def Try.laysSort_ren : Go.Shelf.Ren := ⟨fun | 189 => 38 | 125 => 45 | 257 => 44 | 128 => 57 | 129 => 58 | 294 => 48 | 295 => 49 | 296 => 50 | 297 => 51 | 298 => 52 | 299 => 53 | 216 => 54 | 300 => 55 | 301 => 56 | 328 => 59 | 329 => 60 | 330 => 61 | 331 => 62 | 332 => 63 | 215 => 64 | 343 => 65 | n => n, fun | 28 => 37 | 3 => 3 | 46 => 33 | 0 => 0 | 51 => 93 | 53 => 28 | 4 => 4 | 183 => 86 | 182 => 85 | 131 => 90 | 5 => 5 | 9 => 9 | 218 => 94 | 222 => 98 | 228 => 100 | 229 => 101 | n => n, fun | n => n⟩
theorem Try.laysSort : Go.Proofs.Lays.n189 Try.prog Try.laysSort_ren := {
  mixed := by kernel_rfl
  f125 := Try.func45.trans (congrArg some (by kernel_rfl))
  f128 := Try.func57.trans (congrArg some (by kernel_rfl))
  f129 := Try.func58.trans (congrArg some (by kernel_rfl))
  f189 := Try.func38.trans (congrArg some (by kernel_rfl))
  f215 := Try.func64.trans (congrArg some (by kernel_rfl))
  f216 := Try.func54.trans (congrArg some (by kernel_rfl))
  f257 := Try.func44.trans (congrArg some (by kernel_rfl))
  f294 := Try.func48.trans (congrArg some (by kernel_rfl))
  f295 := Try.func49.trans (congrArg some (by kernel_rfl))
  f296 := Try.func50.trans (congrArg some (by kernel_rfl))
  f297 := Try.func51.trans (congrArg some (by kernel_rfl))
  f298 := Try.func52.trans (congrArg some (by kernel_rfl))
  f299 := Try.func53.trans (congrArg some (by kernel_rfl))
  f300 := Try.func55.trans (congrArg some (by kernel_rfl))
  f301 := Try.func56.trans (congrArg some (by kernel_rfl))
  f328 := Try.func59.trans (congrArg some (by kernel_rfl))
  f329 := Try.func60.trans (congrArg some (by kernel_rfl))
  f330 := Try.func61.trans (congrArg some (by kernel_rfl))
  f331 := Try.func62.trans (congrArg some (by kernel_rfl))
  f332 := Try.func63.trans (congrArg some (by kernel_rfl))
  f343 := Try.func65.trans (congrArg some (by kernel_rfl))
  t0 := Try.underlying0
  a0 := Try.isAgg0
  z0 := Try.sizeOf0
  v0 := Try.zeroValue0
  t3 := Try.underlying3
  a3 := Try.isAgg3
  z3 := Try.sizeOf3
  v3 := Try.zeroValue3
  t4 := Try.underlying4
  a4 := Try.isAgg4
  z4 := Try.sizeOf4
  v4 := Try.zeroValue4
  t5 := Try.underlying5
  a5 := Try.isAgg5
  z5 := Try.sizeOf5
  v5 := Try.zeroValue5
  t9 := Try.underlying9
  a9 := Try.isAgg9
  z9 := Try.sizeOf9
  v9 := Try.zeroValue9
  t28 := Try.underlying37
  a28 := Try.isAgg37
  z28 := Try.sizeOf37
  v28 := Try.zeroValue37
  t46 := Try.underlying33
  a46 := Try.isAgg33
  z46 := Try.sizeOf33
  v46 := Try.zeroValue33
  t51 := Try.underlying93
  a51 := Try.isAgg93
  z51 := Try.sizeOf93
  v51 := Try.zeroValue93
  t53 := Try.underlying28
  a53 := Try.isAgg28
  z53 := Try.sizeOf28
  v53 := Try.zeroValue28
  t131 := Try.underlying90
  a131 := Try.isAgg90
  z131 := Try.sizeOf90
  v131 := Try.zeroValue90
  t182 := Try.underlying85
  a182 := Try.isAgg85
  z182 := Try.sizeOf85
  v182 := Try.zeroValue85
  t183 := Try.underlying86
  a183 := Try.isAgg86
  z183 := Try.sizeOf86
  v183 := Try.zeroValue86
  t218 := Try.underlying94
  a218 := Try.isAgg94
  z218 := Try.sizeOf94
  v218 := Try.zeroValue94
  t222 := Try.underlying98
  a222 := Try.isAgg98
  z222 := Try.sizeOf98
  v222 := Try.zeroValue98
  t228 := Try.underlying100
  a228 := Try.isAgg100
  z228 := Try.sizeOf100
  v228 := Try.zeroValue100
  t229 := Try.underlying101
  a229 := Try.isAgg101
  z229 := Try.sizeOf101
  v229 := Try.zeroValue101 }
section
open Go.Sort Go.Shelf
theorem c_sort (blk cap : Nat) (zs : List Int) (w : World) (hH : Holds (Value.int .i64) w blk 0 zs.toArray) (hblk : blk < w.heap.size) (hsz : zs.length < 4611686018427387904) :
    Calls Try.prog 38 #[.slice (some ⟨blk, 0, none⟩) zs.length cap] w fun e w' => e = .returned (.tuple #[]) ∧ ∃ n os, w' = grow (putRow (Value.int .i64) (Sort.ahead w n) blk 0 (zs.mergeSort fun x y => decide (x ≤ y)).toArray) os :=
  calls_of_every_depth fun D => AnyS.slices_Sort_int_alone Try.laysSort D blk 0 cap zs w hH hblk hsz
theorem c_sort_row {w0 w : World} {L : List Ent} {i : Nat} {v : Value} {e : TypeId} {zs : List Int} (hH : Hp w0 w L) (hi : L[i]? = some (.row v e 1 zs.length (zs.map I))) (hn : 0 < zs.length) (hs : zs.length ≤ 4000000) :
    Calls Try.prog 38 #[v] w (Ret fun u w' => u = .tuple #[] ∧ Hp w0 w' (L.set i (.row v e 1 zs.length ((zs.mergeSort fun x y => decide (x ≤ y)).map I)))) := by
  obtain ⟨hl, h2⟩ := hH.get hi
  rcases h2 with ⟨rfl, q⟩ | ⟨gb, cap, cur, rfl, hb, hg, hnc, hm, hsz, ht⟩
  · omega
  · have hlt : gb < w.heap.size := (Array.getElem?_eq_some_iff.1 hg).1
    have hlen : (zs.mergeSort fun x y => decide (x ≤ y)).length = zs.length := List.length_mergeSort _
    refine Calls.mono (c_sort gb cap zs w (holds_of_blockI hg (by rw [Nat.mul_one] at ht; exact ht)) hlt (by omega)) fun en w' ⟨he, n, os, hw⟩ => ?_
    subst he
    refine ⟨rfl, ?_⟩
    subst hw
    have h3 := ownsRow_sortedI (w := w) (base := w0.heap.size) (os := os) (n := n) (ss := zs) (ts := zs.mergeSort fun x y => decide (x ≤ y)) hlen hb hg hnc hm hsz
    exact hH.appended hi h3 (grownBy_sortedI _) (.inr (.inl rfl))
end
theorem c_forest_Forest_Class (F : Nat) (vW vU vT : Value) (cnt : Int) (nd : List Fnd) (cl : List Nat) (i : Int) (hn : nd.length ≤ 1000000) (hf : Fo nd cl) (w : World) (hb : w.heap[F]? = some (.cells #[vW, vU, vT, I cnt] 65 (0, 0))) (hW : Sl w vW 1 (wordsN nd).length ((wordsN nd).map U)) : Calls Try.prog 23 #[.pointer (some ⟨F, 0, none⟩), I i] w (PureRow 3 1 (classI cl i).length ((classI cl i).map I) w) := by
  have hwl := wordsN_len nd
  refine enter Try.func23 rfl Try.ntmps23 rfl ?_
  have hH := Hp.start w
  refine CW.seq ?_
  refine CW.region ?_
  refine RL.val rfl (run_assign (v := .slice none 0 0) rfl) ?_
  have hH1 := hH.nilRow 3 1
  refine RL.nil ?_
  refine CW.scope ?_
  refine CW.seq ?_
  refine CW.seq ?_
  refine CW.region ?_
  refine RL.val rfl (run_move (v := .pointer (some ⟨_, _, none⟩)) rfl) ?_
  refine RL.val rfl (run_move (v := I _) rfl) ?_
  refine RL.callP rfl hH1 (c_forest_Forest_is _ _ _ _ _ _ _ (by assumption) _ (hH1.ext hb) (hW.hp hH1)) (run_call2 Try.call28 rfl rfl) ?_
  intro w2 hH3
  refine RL.val rfl (run_notP rfl) ?_
  refine RL.nil ?_
  refine CW.condP rfl (fun h7 => ?_) (fun h7 => ?_)
  · refine CW.seq ?_
    refine CW.region ?_
    refine RL.val rfl (run_assign (v := .slice none 0 0) rfl) ?_
    have hH8 := hH3.nilRow 3 1
    refine RL.nil ?_
    refine CW.ret ?_
    exact outR Try.results23 rfl hH8 (i := 0) rfl ((by rw [classI_no hf (by omega)]; rfl)) ((by rw [classI_no hf (by omega)]; rfl))
  · refine CW.skip ?_
    refine CW.seq ?_
    refine CW.region ?_
    refine RL.val rfl (run_assign (v := .slice none 0 0) rfl) ?_
    have hH9 := hH3.nilRow 3 1
    refine RL.nil ?_
    refine CW.seq ?_
    refine CW.region ?_
    refine RL.val rfl (run_move (v := I _) rfl) ?_
    refine RL.val rfl (run_assign (v := I _) rfl) ?_
    refine RL.nil ?_
    refine CW.seq ?_
    refine CW.label ?_
    refine CW.seq ?_
    refine CW.block ?_
    have hin : 0 ≤ i ∧ i < nd.length := by omega
    obtain ⟨t, ht, hmt⟩ := hf.ring i.toNat (by omega)
    have htl : (i.toNat :: t).length ≤ nd.length := ring_len ht.2 fun k hk => ((hmt k).1 hk).1
    refine CW.loop (G := (Nat) × (List Nat) × (List Nat) × (Value)) (fun (⟨a, o, m, v5⟩ : (Nat) × (List Nat) × (List Nat) × (Value)) s' w' => (Fr [5, 6, 12, 13, 14, 15, 16, 17, 18, 19, 20, 21, 22, 23] _ s') ∧ (Hp w w' (.row v5 3 1 (o.length) ((o.map Int.ofNat).map I) :: _)) ∧ (s' 5 = v5) ∧ (s' 6 = I (a : Int)) ∧ (i.toNat :: t = o ++ a :: m) ∧ (a < nd.length) ∧ (o.length + 1 ≤ nd.length)) (fun (⟨a, o, m, v5⟩ : (Nat) × (List Nat) × (List Nat) × (Value)) => m.length) ((i.toNat, [], t, (.slice none 0 0 : Value))) ⟨Fr.refl _ _, hH9, rfl, (congrArg I (show i = ((i.toNat : Nat) : Int) by omega)), rfl, (by omega), (by simp at htl ⊢; omega)⟩ ?_
    rintro ⟨a, o, m, v5⟩ sg10 w10 ⟨fr10, hH10, e5_10, e6_10, he, ha, ho⟩
    have e0_10 : sg10 0 = .pointer (some ⟨_, _, none⟩) := (fr10 0 rfl).trans rfl
    have e1_10 : sg10 1 = I _ := (fr10 1 rfl).trans rfl
    have e4_10 := (fr10 4 rfl).trans (by conv => lhs; whnf)
    have hnx := cell_nx hf hn ha
    have hst := ring_step ht he
    refine CW.block ?_
    refine CW.seq ?_
    refine CW.region ?_
    refine RL.val rfl (run_move e5_10) ?_
    refine RL.val rfl (run_move e6_10) ?_
    refine RL.new rfl hH10 (f := fun b => (.slice (some ⟨b, 0, none⟩) 1 1)) (run_mkL Try.underlying37 rfl rfl (sz := 1) (vs := [I _]) rfl rfl (by decide) (by decide) rfl rfl) ?_
    intro b13 w11 hH12
    (try simp only [List.flatMap_cons, List.flatMap_nil, clI, clB, clS, clP, clL, clA, List.append_nil, List.cons_append, List.nil_append] at hH12)
    refine RL.app rfl hH12 (i := 1) rfl (hH12.slBlk (i := 0) (n := 1) (sz := 1) rfl rfl (by decide)) rfl rfl Try.underlying37 rfl rfl (size := 1) (bytes := 8) rfl rfl rfl (by decide) (by simp [Value.oneCell']) (by omega) (by simp only [maxLen]; omega) ?_
    intro v14 w15 hH16
    simp only [List.set_cons_zero, List.set_cons_succ] at hH16
    refine RL.val rfl (run_assign (by conv => lhs; whnf)) ?_
    refine RL.nil ?_
    refine CW.seq ?_
    refine CW.region ?_
    refine RL.val rfl (run_move e0_10) ?_
    refine RL.val rfl (run_nilCheck rfl) ?_
    refine RL.val rfl (run_fieldAddr Try.underlying65 rfl (off := 0) rfl Try.sizeOf63 (by decide) rfl) ?_
    refine RL.val rfl (run_move e6_10) ?_
    refine RL.callP rfl hH16 (c_forest_nodes_cell _ _ _ _ _ _ _ _ (by omega) _ (hH16.ext hb) (hW.hp hH16)) (run_call3 Try.call30 rfl rfl (show _ = I 2 from rfl)) ?_
    intro w17 hH18
    refine RL.val rfl (run_assign (v := I _) rfl) ?_
    refine RL.nil ?_
    refine CW.seq ?_
    refine CW.region ?_
    refine RL.val rfl (run_move (v := I _) rfl) ?_
    refine RL.val rfl (run_move e1_10) ?_
    refine RL.val rfl (run_eql rfl rfl) ?_
    refine RL.nil ?_
    refine CW.condP rfl (fun h20 => ?_) (fun h20 => ?_)
    · refine CW.exit (id := 0) rfl ?_
      refine CW.seq ?_
      refine CW.region ?_
      refine RL.val rfl (run_move (by conv => lhs; whnf)) ?_
      have hzl : ((o ++ [a]).map Int.ofNat).length ≤ 4000000 := by rw [List.length_map, List.length_append, List.length_singleton]; omega
      rw [show (o.map Int.ofNat).map I ++ [I (a : Int)] = ((o ++ [a]).map Int.ofNat).map I by simp, show o.length + 1 = ((o ++ [a]).map Int.ofNat).length by simp] at hH18
      refine RL.callT rfl (c_sort_row (zs := ((o ++ [a]).map Int.ofNat)) (i := 1) (v := v14) hH18 rfl (by simp) hzl) (run_call1 Try.call38 rfl) ?_
      rintro _ w21 ⟨rfl, hH22⟩
      simp only [List.set_cons_zero, List.set_cons_succ] at hH22
      refine RL.nil ?_
      refine CW.seq ?_
      refine CW.region ?_
      refine RL.val rfl (run_move (by conv => lhs; whnf)) ?_
      refine RL.val rfl (run_assign (by conv => lhs; whnf)) ?_
      refine RL.nil ?_
      refine CW.ret ?_
      exact outR Try.results23 rfl hH22 (i := 1) rfl ((by rw [← classI_yes hf hin ht hmt he (by omega), List.length_mergeSort])) ((by rw [← classI_yes hf hin ht hmt he (by omega)]))
    · refine CW.skip ?_
      refine ⟨(nxF nd a, o ++ [a], m.tail, v14), ?_, (((((((((((((fr10.u rfl).u rfl).u rfl).u rfl).u rfl).u rfl).u rfl).u rfl).u rfl).u rfl).u rfl).u rfl).u rfl).u rfl, (Hp.conv (hH18.sub (.cons _ (List.Sublist.refl _))) (by simp)), rfl, (congrArg I (cell_nx hf hn ha)), ?_, ?_, ?_⟩
      · exact (class_step ht hmt he (fun e => ‹¬ _ = i› (by omega))).2.2.2
      · exact (class_step ht hmt he (fun e => ‹¬ _ = i› (by omega))).1
      · exact (class_step ht hmt he (fun e => ‹¬ _ = i› (by omega))).2.1
      · (have := (class_step ht hmt he (fun e => ‹¬ _ = i› (by omega))).2.2.1; have := ring_len ht.2 (fun k hk => ((hmt k).1 hk).1); omega)
set_option maxHeartbeats 1000000 in
theorem c_forest_Forest_Add (W0 : World) (F : Nat) (vW vU vT : Value) (cnt : Int) (cW cU : Option (Nat × Array Value)) (nd : List Fnd) (ul : List (Value × Und)) (ts : List Int) (L : List Ent) (hn : nd.length ≤ 100000) (hul : ul.length ≤ 1000000) (hts : ts.length ≤ 1000000) (hcn : -1000000 ≤ cnt ∧ cnt ≤ 1000000) (w : World) (hkW : cO cW vW ((wordsN nd).map U)) (hkU : cO cU vU (ul.map Prod.fst)) (hH : Hp W0 w (.blk F (.cells #[vW, vU, vT, I (cnt)] 65 (0, 0)) :: cE cW vW 28 ((wordsN nd).map U) :: cE cU vU 1 (ul.map Prod.fst) :: .row vT 3 1 ts.length (ts.map I) :: L)) : Calls Try.prog 9 #[.pointer (some ⟨F, 0, none⟩)] w (Ret fun u w' => u = I nd.length ∧ ∃ (v1 : Value) (c1 : Option (Nat × Array Value)) (u1 : Value) (c2 : Option (Nat × Array Value)) (t1 : Value) (ul1 : List (Value × Und)) (Lb : List Ent), cO c1 v1 ((wordsN (nd ++ [newN nd.length])).map U) ∧ cO c2 u1 (ul1.map Prod.fst) ∧ ul1.map Prod.snd = addU (ul.map Prod.snd) (wordsN nd).length ∧ ul1.take ul.length = ul ∧ (∀ x ∈ ul1.drop ul.length, UndIn (⟨40, 47, 78, 3, 28⟩ : UT) F Lb x) ∧ Hp W0 w' (.blk F (.cells #[v1, u1, t1, I (cnt + 1)] 65 (0, 0)) :: cE c1 v1 28 ((wordsN (nd ++ [newN nd.length])).map U) :: cE c2 u1 1 (ul1.map Prod.fst) :: .row t1 3 1 (ts ++ [(ul.length : Int)]).length ((ts ++ [(ul.length : Int)]).map I) :: (Lb ++ L))) := by
  have hwl := wordsN_len nd
  refine enter Try.func9 rfl Try.ntmps9 rfl ?_
  refine CW.seq ?_
  refine CW.region ?_
  refine RL.val rfl (run_assign (v := I 0) rfl) ?_
  refine RL.nil ?_
  refine CW.seq ?_
  refine CW.seq ?_
  refine CW.region ?_
  refine RL.val rfl (run_move (v := .pointer (some ⟨_, _, none⟩)) rfl) ?_
  refine RL.val rfl (run_eqlP0 Try.underlying26 rfl rfl) ?_
  refine RL.nil ?_
  refine CW.condF rfl ?_
  refine CW.skip ?_
  refine CW.seq ?_
  refine CW.region ?_
  refine RL.val rfl (run_move (v := .pointer (some ⟨_, _, none⟩)) rfl) ?_
  refine RL.callP rfl hH (c_forest_Forest_Len _ _ _ _ _ _ (by omega) _ (hH.blk (i := 0) rfl) (hH.slU (i := 1) rfl hkW)) (run_call1 Try.call16 rfl) ?_
  intro w1 hH2
  refine RL.val rfl (run_assign (v := I _) rfl) ?_
  refine RL.nil ?_
  refine CW.seq ?_
  refine CW.regionS (by kernel_rfl) hH2 (.cons _ (.cons_cons _ (.cons_cons _ (.cons _ (List.Sublist.refl _))))) ?_
  intro w3 hH4
  refine AN.take 0 rfl rfl (by kernel_rfl) (by kernel_rfl) (by kernel_rfl) (hH4.sub (.cons _ (.cons_cons _ (.cons_cons _ (.cons _ (List.Sublist.refl _)))))) (fun w hS => run_move (v := .pointer (some ⟨_, _, none⟩)) rfl) ?_
  refine AN.take 1 rfl rfl (by kernel_rfl) (by kernel_rfl) (by kernel_rfl) (hH4.sub (.cons _ (.cons_cons _ (.cons_cons _ (.cons _ (List.Sublist.refl _)))))) (fun w hS => run_move (v := .pointer (some ⟨_, _, none⟩)) rfl) ?_
  refine AN.take 2 rfl rfl (by kernel_rfl) (by kernel_rfl) (by kernel_rfl) (hH4.sub (.cons _ (.cons_cons _ (.cons_cons _ (.cons _ (List.Sublist.refl _)))))) (fun w hS => run_nilCheck rfl) ?_
  refine AN.take 3 rfl rfl (by kernel_rfl) (by kernel_rfl) (by kernel_rfl) (hH4.sub (.cons _ (.cons_cons _ (.cons_cons _ (.cons _ (List.Sublist.refl _)))))) (fun w hS => run_fieldAddr Try.underlying65 rfl (off := 2) rfl Try.sizeOf37 (by decide) rfl) ?_
  refine AN.take 5 rfl rfl (by kernel_rfl) (by kernel_rfl) (by kernel_rfl) (hH4.sub (.cons _ (.cons_cons _ (.cons_cons _ (.cons _ (List.Sublist.refl _)))))) (fun w hS => run_move (v := .pointer (some ⟨_, _, none⟩)) rfl) ?_
  refine AN.take 6 rfl rfl (by kernel_rfl) (by kernel_rfl) (by kernel_rfl) (hH4.sub (.cons _ (.cons_cons _ (.cons_cons _ (.cons _ (List.Sublist.refl _)))))) (fun w hS => run_nilCheck rfl) ?_
  refine AN.take 7 rfl rfl (by kernel_rfl) (by kernel_rfl) (by kernel_rfl) (hH4.sub (.cons _ (.cons_cons _ (.cons_cons _ (.cons _ (List.Sublist.refl _)))))) (fun w hS => run_fieldAddr Try.underlying65 rfl (off := 0) rfl Try.sizeOf63 (by decide) rfl) ?_
  refine AN.take 8 rfl rfl (by kernel_rfl) (by kernel_rfl) (by kernel_rfl) (hH4.sub (.cons _ (.cons_cons _ (.cons_cons _ (.cons _ (List.Sublist.refl _)))))) (fun w hS => run_fieldAddr Try.underlying63 rfl (off := 0) rfl Try.sizeOf61 (by decide) rfl) ?_
  refine AN.two 4 9 (by kernel_rfl) ?_ ?_
  · refine AO.read rfl gnone rfl hH4 (.cons _ (.cons_cons _ (.cons_cons _ (.cons _ (List.Sublist.refl _))))) (run_ld Try.underlying37 rfl rfl (hH4.cell (i := 0) rfl rfl)) ?_
    refine AN.one 9 (by kernel_rfl) ?_
    refine AO.callP rfl gnone rfl hH4 (.cons _ (.cons_cons _ (.cons_cons _ (.cons _ (List.Sublist.refl _))))) (c_cells_Cells_Mark _ _ _ _ _ _ _ _ (hH4.blk (i := 0) rfl) (hH4.slU (i := 1) rfl hkW) (hH4.slE (i := 2) rfl hkU)) (run_call1 Try.call26 rfl) ?_
    intro w7 hH8
    refine AN.one 10 (by kernel_rfl) ?_
    refine AO.new rfl gnone rfl hH8 (.cons _ (.cons_cons _ (.cons_cons _ (.cons _ (List.Sublist.refl _))))) (f := fun b => .slice (some ⟨b, 0, none⟩) 1 1) (run_mkL Try.underlying37 rfl rfl (sz := 1) (vs := [I _]) rfl rfl (by decide) (by decide) rfl rfl) ?_
    intro b11 w9 hH10
    (try simp only [List.flatMap_cons, List.flatMap_nil, clI, clB, clS, clP, clL, clA, List.append_nil, List.cons_append, List.nil_append] at hH10)
    refine AN.one 11 (by kernel_rfl) ?_
    refine AO.app rfl gnone rfl hH10 (j := 4) rfl (fun _ => (.cons _ (.cons _ (.cons_cons _ (.cons_cons _ (.cons _ (List.Sublist.refl _))))))) (hH10.slBlk (i := 0) (n := 1) (sz := 1) rfl rfl (by decide)) rfl rfl Try.underlying37 rfl rfl (size := 1) (bytes := 8) rfl rfl rfl (by decide) (by simp [Value.oneCell']) (by omega) (by simp only [maxLen]; omega) ?_
    intro v14 w12 hH13
    simp only [List.set_cons_zero, List.set_cons_succ] at hH13
    refine AN.take 12 rfl rfl (by kernel_rfl) (by kernel_rfl) (by kernel_rfl) (hH13.sub (.cons _ (.cons _ (.cons_cons _ (.cons_cons _ (.cons _ (List.Sublist.refl _))))))) (fun w hS => run_nilCheck rfl) ?_
    refine AN.take 13 rfl rfl (by kernel_rfl) (by kernel_rfl) (by kernel_rfl) (hH13.sub (.cons _ (.cons _ (.cons_cons _ (.cons_cons _ (.cons _ (List.Sublist.refl _))))))) (fun w hS => run_fieldAddr Try.underlying65 rfl (off := 2) rfl Try.sizeOf37 (by decide) rfl) ?_
    refine AN.one 14 (by kernel_rfl) ?_
    refine AO.set rfl gnone hH13 (j := 1) rfl (.cons _ (.cons _ (.cons_cons _ (.cons_cons _ (.cons _ (List.Sublist.refl _)))))) (run_st rfl rfl (v := v14) rfl (row_cells (hH13.get (i := 4) rfl)).1 (row_cells (hH13.get (i := 4) rfl)).2 (hH13.blk (i := 1) rfl) (by simp)) ?_
    intro w17 hH18
    simp only [List.set_cons_zero, List.set_cons_succ] at hH18
    refine AN.done (by kernel_rfl) ?_
    refine CW.seq ?_
    refine CW.seq ?_
    refine CW.region ?_
    refine RL.val rfl (run_move (v := I _) rfl) ?_
    refine RL.val rfl (run_move (v := I _) rfl) ?_
    refine RL.val rfl (run_move (v := I _) rfl) ?_
    refine RL.new rfl hH18 (f := fun b => (.slice (some ⟨b, 0, none⟩) 4 4)) (run_mkL Try.underlying37 rfl rfl (sz := 1) (vs := [I _, I 1, I _, I _]) rfl rfl (by decide) (by decide) rfl rfl) ?_
    intro b21 w19 hH20
    (try simp only [List.flatMap_cons, List.flatMap_nil, clI, clB, clS, clP, clL, clA, List.append_nil, List.cons_append, List.nil_append] at hH20)
    refine RL.val rfl (run_lenSl (hH20.slBlk (i := 0) (n := 4) (sz := 1) rfl rfl (by decide)) rfl Try.underlying37 rfl) ?_
    refine RL.val rfl (run_move (v := I 0) rfl) ?_
    refine RL.nil ?_
    refine CW.block ?_
    have e0 : ((wordsN nd) ++ (ndW (newN nd.length)).take (0 : Int).toNat) = (wordsN nd) := by simp
    refine CW.loop (G := (Int) × (Value) × (Option (Nat × Array Value)) × (Value) × (Option (Nat × Array Value)) × (List (Value × Und)) × (List Ent)) (fun (⟨k, v1, c1, u1, c2, ul1, Z1⟩ : (Int) × (Value) × (Option (Nat × Array Value)) × (Value) × (Option (Nat × Array Value)) × (List (Value × Und)) × (List Ent)) s' w' => (Fr [5, 29, 30, 31, 32, 33, 34, 35, 36, 37, 38, 39, 40] _ s') ∧ (Hp W0 w' (_ :: _ :: .blk F (.cells #[v1, u1, v14, I (cnt)] 65 (0, 0)) :: cE c1 v1 28 (((wordsN nd) ++ (ndW (newN nd.length)).take k.toNat).map U) :: cE c2 u1 1 (ul1.map Prod.fst) :: _ :: Z1)) ∧ (s' 29 = I k) ∧ (0 ≤ k) ∧ (k ≤ 4) ∧ (cO c1 v1 (((wordsN nd) ++ (ndW (newN nd.length)).take k.toNat).map U)) ∧ (cO c2 u1 (ul1.map Prod.fst)) ∧ (ul1.map Prod.snd = ul.map Prod.snd ++ addT (wordsN nd).length k) ∧ (ul1.take ul.length = ul) ∧ (∃ Lb, Z1 = Lb ++ L ∧ ∀ x ∈ ul1.drop ul.length, UndIn (⟨40, 47, 78, 3, 28⟩ : UT) F Lb x) ∧ (ul1.length ≤ ul.length + k.toNat)) (fun (⟨k, v1, c1, u1, c2, ul1, Z1⟩ : (Int) × (Value) × (Option (Nat × Array Value)) × (Value) × (Option (Nat × Array Value)) × (List (Value × Und)) × (List Ent)) => (4 - k).toNat) ((0, vW, cW, vU, cU, ul, L)) ⟨Fr.refl _ _, (by rw [e0]; exact hH20), rfl, (by omega), (by omega), (by rw [e0]; exact hkW), hkU, (by simp [addT]), (List.take_length ..), ⟨[], rfl, by simp⟩, (by omega)⟩ ?_
    rintro ⟨k, v1, c1, u1, c2, ul1, Z1⟩ sg22 w22 ⟨fr22, hH22, e29_22, h0, h4, hk1, hk2, hms, hpt, hzz, hul1⟩
    have e0_22 : sg22 0 = .pointer (some ⟨_, _, none⟩) := (fr22 0 rfl).trans rfl
    have e2_22 : sg22 2 = I _ := (fr22 2 rfl).trans rfl
    have e3_22 : sg22 3 = I _ := (fr22 3 rfl).trans rfl
    have e27_22 := (fr22 27 rfl).trans (by conv => lhs; whnf)
    have e28_22 : sg22 28 = I _ := (fr22 28 rfl).trans rfl
    refine CW.seq ?_
    refine CW.region ?_
    refine RL.val rfl (run_lss e29_22 e28_22) ?_
    refine RL.nil ?_
    refine CW.seq ?_
    refine CW.condP rfl (fun h24 => ?_) (fun h24 => ?_)
    · refine CW.skip ?_
      refine CW.seq ?_
      refine CW.block ?_
      refine CW.seq ?_
      refine CW.region ?_
      refine RL.val rfl (run_indexAddrS (hH22.slBlk (i := 0) (n := 4) (sz := 1) rfl rfl (by decide)) Try.underlying37 Try.sizeOf3 e27_22 e29_22 (by omega)) ?_
      refine RL.val rfl (run_ld Try.underlying3 rfl rfl ((hH22.slBlk (i := 0) (n := 4) (sz := 1) rfl rfl (by decide)).cell _ _ (lit_at h0 ‹k < _›))) ?_
      refine RL.val rfl (run_assign (v := I _) rfl) ?_
      refine RL.nil ?_
      refine CW.region ?_
      refine RL.val rfl (run_move e0_22) ?_
      refine RL.val rfl (run_nilCheck rfl) ?_
      refine RL.val rfl (run_fieldAddr Try.underlying65 rfl (off := 0) rfl Try.sizeOf63 (by decide) rfl) ?_
      refine RL.val rfl (run_fieldAddr Try.underlying63 rfl (off := 0) rfl Try.sizeOf61 (by decide) rfl) ?_
      refine RL.val rfl (run_move (v := I _) rfl) ?_
      refine RL.val rfl (run_convIU Try.underlying3 Try.underlying28 rfl) ?_
      refine RL.callT rfl (c_cells_Cells_Add _ _ _ _ _ _ _ _ _ _ _ _ (by simp only [List.length_append, List.length_take, wordsN_len]; omega) (by omega) _ hk1 hk2 (hH22.perm (((List.Perm.cons _ ((List.Perm.cons _ (List.Perm.refl _)).trans (List.Perm.swap _ _ _))).trans (List.Perm.swap _ _ _)).trans (List.Perm.cons _ (((List.Perm.cons _ ((List.Perm.cons _ (List.Perm.refl _)).trans (List.Perm.swap _ _ _))).trans (List.Perm.swap _ _ _)).trans (List.Perm.cons _ (((List.Perm.cons _ ((List.Perm.cons _ (List.Perm.refl _)).trans (List.Perm.swap _ _ _))).trans (List.Perm.swap _ _ _)).trans (List.Perm.cons _ (List.Perm.refl _))))))))) (run_call2 Try.call27 rfl rfl) ?_
      rintro _ w27 ⟨rfl, v30, c31, u32, e33, ul34, Lb35, hk36, hu37, hm38, ht39, hl40, hd41, h28⟩
      have hH29 := Hp.mids (A := [_, _, _]) (R := [_, _, _]) h28
      simp only [List.cons_append, List.nil_append] at hH29
      have hH42 := hH29.perm (((List.Perm.cons _ ((List.Perm.cons _ ((List.Perm.cons _ (List.Perm.refl _)).trans (List.Perm.swap _ _ _))).trans (List.Perm.swap _ _ _))).trans (List.Perm.swap _ _ _)).trans (List.Perm.cons _ (((List.Perm.cons _ ((List.Perm.cons _ ((List.Perm.cons _ (List.Perm.refl _)).trans (List.Perm.swap _ _ _))).trans (List.Perm.swap _ _ _))).trans (List.Perm.swap _ _ _)).trans (List.Perm.cons _ (List.Perm.refl _)))))
      refine RL.nil ?_
      refine CW.region ?_
      refine RL.val rfl (run_add e29_22 rfl (by omega)) ?_
      refine RL.val rfl (run_move (v := I _) rfl) ?_
      refine RL.nil ?_
      refine ⟨(k + 1, v30, c31, u32, e33, ul34, (Lb35 ++ Z1)), ?_, ((((((((((((fr22.u rfl).u rfl).u rfl).u rfl).u rfl).u rfl).u rfl).u rfl).u rfl).u rfl).u rfl).u rfl).u rfl, (Hp.conv hH42 (by rw [nw_next h0 ‹k < _›, ← List.append_assoc]; done)), (congrArg I (by rfl)), ?_, ?_, ?_, ?_, ?_, ?_, ?_, ?_⟩
      · ((try dsimp only); omega)
      · omega
      · omega
      · (rw [nw_next h0 ‹k < _›, ← List.append_assoc]; exact hk36)
      · exact hu37
      · (rw [hm38, hms, addT_next h0, ← List.append_assoc, List.length_append, List.length_take]; congr 3; (have : (ndW (newN nd.length)).length = 4 := rfl); omega)
      · (obtain ⟨Lb0, rfl, hd0⟩ := hzz; exact (drop_app hpt ht39 hd0 hd41).1)
      · (obtain ⟨Lb0, rfl, hd0⟩ := hzz; exact ⟨Lb35 ++ Lb0, by rw [List.append_assoc], (drop_app hpt ht39 hd0 hd41).2⟩)
      · (have := hl40; omega)
    · refine CW.exit (id := 0) rfl ?_
      refine CW.seq ?_
      refine CW.region ?_
      refine RL.val rfl (run_move e0_22) ?_
      refine RL.val rfl (run_nilCheck rfl) ?_
      refine RL.val rfl (run_fieldAddr Try.underlying65 rfl (off := 3) rfl Try.sizeOf3 (by decide) rfl) ?_
      refine RL.val rfl (run_ld Try.underlying3 rfl rfl (hH22.cell (i := 2) rfl (v := I _) rfl)) ?_
      refine RL.val rfl (run_add rfl rfl (by omega)) ?_
      refine RL.val rfl (run_nilCheck rfl) ?_
      refine RL.val rfl (run_fieldAddr Try.underlying65 rfl (off := 3) rfl Try.sizeOf3 (by decide) rfl) ?_
      refine RL.set hH22 (i := 2) rfl (run_st rfl rfl (v := I _) rfl rfl rfl (hH22.blk (i := 2) rfl) (by simp)) ?_
      intro w43 hH44
      simp only [List.set_cons_zero, List.set_cons_succ] at hH44
      refine RL.nil ?_
      refine CW.seq ?_
      refine CW.region ?_
      refine RL.val rfl (run_move e3_22) ?_
      refine RL.val rfl (run_assign (v := I _) rfl) ?_
      refine RL.nil ?_
      refine CW.ret ?_
      have ek : k = 4 := by omega
      subst ek
      obtain ⟨Lb0, rfl, hd0⟩ := hzz
      exact out1 Try.results9 (v := I nd.length) rfl ⟨rfl, v1, c1, u1, c2, v14, ul1, Lb0, (by rw [wordsN_snoc]; exact hk1), hk2, (hms.trans addT_4), hpt, hd0, (by rw [wordsN_snoc, show (ts ++ [(ul.length : Int)]).length = ts.length + 1 by simp, show (ts ++ [(ul.length : Int)]).map I = ts.map I ++ [I ((ul.map Prod.fst).length : Int)] by simp]; exact (hH44.perm (((List.Perm.cons _ ((List.Perm.cons _ (List.Perm.refl _)).trans (List.Perm.swap _ _ _))).trans (List.Perm.swap _ _ _)).trans (List.Perm.cons _ (((List.Perm.cons _ ((List.Perm.cons _ (List.Perm.refl _)).trans (List.Perm.swap _ _ _))).trans (List.Perm.swap _ _ _)).trans (List.Perm.cons _ (((List.Perm.cons _ ((List.Perm.cons _ (List.Perm.refl _)).trans (List.Perm.swap _ _ _))).trans (List.Perm.swap _ _ _)).trans (List.Perm.cons _ (((List.Perm.cons _ ((List.Perm.cons _ (List.Perm.refl _)).trans (List.Perm.swap _ _ _))).trans (List.Perm.swap _ _ _)).trans (List.Perm.cons _ (List.Perm.refl _)))))))))).sub (.cons_cons _ (.cons_cons _ (.cons_cons _ (.cons_cons _ (.cons _ (.cons _ (List.Sublist.refl _))))))))⟩
  · refine AO.callP rfl gnone rfl hH4 (.cons _ (.cons_cons _ (.cons_cons _ (.cons _ (List.Sublist.refl _))))) (c_cells_Cells_Mark _ _ _ _ _ _ _ _ (hH4.blk (i := 0) rfl) (hH4.slU (i := 1) rfl hkW) (hH4.slE (i := 2) rfl hkU)) (run_call1 Try.call26 rfl) ?_
    intro w45 hH46
    refine AN.two 4 10 (by kernel_rfl) ?_ ?_
    · refine AO.read rfl gnone rfl hH46 (.cons _ (.cons_cons _ (.cons_cons _ (.cons _ (List.Sublist.refl _))))) (run_ld Try.underlying37 rfl rfl (hH46.cell (i := 0) rfl rfl)) ?_
      refine AN.one 10 (by kernel_rfl) ?_
      refine AO.new rfl gnone rfl hH46 (.cons _ (.cons_cons _ (.cons_cons _ (.cons _ (List.Sublist.refl _))))) (f := fun b => .slice (some ⟨b, 0, none⟩) 1 1) (run_mkL Try.underlying37 rfl rfl (sz := 1) (vs := [I _]) rfl rfl (by decide) (by decide) rfl rfl) ?_
      intro b51 w49 hH50
      (try simp only [List.flatMap_cons, List.flatMap_nil, clI, clB, clS, clP, clL, clA, List.append_nil, List.cons_append, List.nil_append] at hH50)
      refine AN.one 11 (by kernel_rfl) ?_
      refine AO.app rfl gnone rfl hH50 (j := 4) rfl (fun _ => (.cons _ (.cons _ (.cons_cons _ (.cons_cons _ (.cons _ (List.Sublist.refl _))))))) (hH50.slBlk (i := 0) (n := 1) (sz := 1) rfl rfl (by decide)) rfl rfl Try.underlying37 rfl rfl (size := 1) (bytes := 8) rfl rfl rfl (by decide) (by simp [Value.oneCell']) (by omega) (by simp only [maxLen]; omega) ?_
      intro v54 w52 hH53
      simp only [List.set_cons_zero, List.set_cons_succ] at hH53
      refine AN.take 12 rfl rfl (by kernel_rfl) (by kernel_rfl) (by kernel_rfl) (hH53.sub (.cons _ (.cons _ (.cons_cons _ (.cons_cons _ (.cons _ (List.Sublist.refl _))))))) (fun w hS => run_nilCheck rfl) ?_
      refine AN.take 13 rfl rfl (by kernel_rfl) (by kernel_rfl) (by kernel_rfl) (hH53.sub (.cons _ (.cons _ (.cons_cons _ (.cons_cons _ (.cons _ (List.Sublist.refl _))))))) (fun w hS => run_fieldAddr Try.underlying65 rfl (off := 2) rfl Try.sizeOf37 (by decide) rfl) ?_
      refine AN.one 14 (by kernel_rfl) ?_
      refine AO.set rfl gnone hH53 (j := 1) rfl (.cons _ (.cons _ (.cons_cons _ (.cons_cons _ (.cons _ (List.Sublist.refl _)))))) (run_st rfl rfl (v := v54) rfl (row_cells (hH53.get (i := 4) rfl)).1 (row_cells (hH53.get (i := 4) rfl)).2 (hH53.blk (i := 1) rfl) (by simp)) ?_
      intro w57 hH58
      simp only [List.set_cons_zero, List.set_cons_succ] at hH58
      refine AN.done (by kernel_rfl) ?_
      refine CW.seq ?_
      refine CW.seq ?_
      refine CW.region ?_
      refine RL.val rfl (run_move (v := I _) rfl) ?_
      refine RL.val rfl (run_move (v := I _) rfl) ?_
      refine RL.val rfl (run_move (v := I _) rfl) ?_
      refine RL.new rfl hH58 (f := fun b => (.slice (some ⟨b, 0, none⟩) 4 4)) (run_mkL Try.underlying37 rfl rfl (sz := 1) (vs := [I _, I 1, I _, I _]) rfl rfl (by decide) (by decide) rfl rfl) ?_
      intro b61 w59 hH60
      (try simp only [List.flatMap_cons, List.flatMap_nil, clI, clB, clS, clP, clL, clA, List.append_nil, List.cons_append, List.nil_append] at hH60)
      refine RL.val rfl (run_lenSl (hH60.slBlk (i := 0) (n := 4) (sz := 1) rfl rfl (by decide)) rfl Try.underlying37 rfl) ?_
      refine RL.val rfl (run_move (v := I 0) rfl) ?_
      refine RL.nil ?_
      refine CW.block ?_
      have e0 : ((wordsN nd) ++ (ndW (newN nd.length)).take (0 : Int).toNat) = (wordsN nd) := by simp
      refine CW.loop (G := (Int) × (Value) × (Option (Nat × Array Value)) × (Value) × (Option (Nat × Array Value)) × (List (Value × Und)) × (List Ent)) (fun (⟨k, v1, c1, u1, c2, ul1, Z1⟩ : (Int) × (Value) × (Option (Nat × Array Value)) × (Value) × (Option (Nat × Array Value)) × (List (Value × Und)) × (List Ent)) s' w' => (Fr [5, 29, 30, 31, 32, 33, 34, 35, 36, 37, 38, 39, 40] _ s') ∧ (Hp W0 w' (_ :: _ :: .blk F (.cells #[v1, u1, v54, I (cnt)] 65 (0, 0)) :: cE c1 v1 28 (((wordsN nd) ++ (ndW (newN nd.length)).take k.toNat).map U) :: cE c2 u1 1 (ul1.map Prod.fst) :: _ :: Z1)) ∧ (s' 29 = I k) ∧ (0 ≤ k) ∧ (k ≤ 4) ∧ (cO c1 v1 (((wordsN nd) ++ (ndW (newN nd.length)).take k.toNat).map U)) ∧ (cO c2 u1 (ul1.map Prod.fst)) ∧ (ul1.map Prod.snd = ul.map Prod.snd ++ addT (wordsN nd).length k) ∧ (ul1.take ul.length = ul) ∧ (∃ Lb, Z1 = Lb ++ L ∧ ∀ x ∈ ul1.drop ul.length, UndIn (⟨40, 47, 78, 3, 28⟩ : UT) F Lb x) ∧ (ul1.length ≤ ul.length + k.toNat)) (fun (⟨k, v1, c1, u1, c2, ul1, Z1⟩ : (Int) × (Value) × (Option (Nat × Array Value)) × (Value) × (Option (Nat × Array Value)) × (List (Value × Und)) × (List Ent)) => (4 - k).toNat) ((0, vW, cW, vU, cU, ul, L)) ⟨Fr.refl _ _, (by rw [e0]; exact hH60), rfl, (by omega), (by omega), (by rw [e0]; exact hkW), hkU, (by simp [addT]), (List.take_length ..), ⟨[], rfl, by simp⟩, (by omega)⟩ ?_
      rintro ⟨k, v1, c1, u1, c2, ul1, Z1⟩ sg62 w62 ⟨fr62, hH62, e29_62, h0, h4, hk1, hk2, hms, hpt, hzz, hul1⟩
      have e0_62 : sg62 0 = .pointer (some ⟨_, _, none⟩) := (fr62 0 rfl).trans rfl
      have e2_62 : sg62 2 = I _ := (fr62 2 rfl).trans rfl
      have e3_62 : sg62 3 = I _ := (fr62 3 rfl).trans rfl
      have e27_62 := (fr62 27 rfl).trans (by conv => lhs; whnf)
      have e28_62 : sg62 28 = I _ := (fr62 28 rfl).trans rfl
      refine CW.seq ?_
      refine CW.region ?_
      refine RL.val rfl (run_lss e29_62 e28_62) ?_
      refine RL.nil ?_
      refine CW.seq ?_
      refine CW.condP rfl (fun h64 => ?_) (fun h64 => ?_)
      · refine CW.skip ?_
        refine CW.seq ?_
        refine CW.block ?_
        refine CW.seq ?_
        refine CW.region ?_
        refine RL.val rfl (run_indexAddrS (hH62.slBlk (i := 0) (n := 4) (sz := 1) rfl rfl (by decide)) Try.underlying37 Try.sizeOf3 e27_62 e29_62 (by omega)) ?_
        refine RL.val rfl (run_ld Try.underlying3 rfl rfl ((hH62.slBlk (i := 0) (n := 4) (sz := 1) rfl rfl (by decide)).cell _ _ (lit_at h0 ‹k < _›))) ?_
        refine RL.val rfl (run_assign (v := I _) rfl) ?_
        refine RL.nil ?_
        refine CW.region ?_
        refine RL.val rfl (run_move e0_62) ?_
        refine RL.val rfl (run_nilCheck rfl) ?_
        refine RL.val rfl (run_fieldAddr Try.underlying65 rfl (off := 0) rfl Try.sizeOf63 (by decide) rfl) ?_
        refine RL.val rfl (run_fieldAddr Try.underlying63 rfl (off := 0) rfl Try.sizeOf61 (by decide) rfl) ?_
        refine RL.val rfl (run_move (v := I _) rfl) ?_
        refine RL.val rfl (run_convIU Try.underlying3 Try.underlying28 rfl) ?_
        refine RL.callT rfl (c_cells_Cells_Add _ _ _ _ _ _ _ _ _ _ _ _ (by simp only [List.length_append, List.length_take, wordsN_len]; omega) (by omega) _ hk1 hk2 (hH62.perm (((List.Perm.cons _ ((List.Perm.cons _ (List.Perm.refl _)).trans (List.Perm.swap _ _ _))).trans (List.Perm.swap _ _ _)).trans (List.Perm.cons _ (((List.Perm.cons _ ((List.Perm.cons _ (List.Perm.refl _)).trans (List.Perm.swap _ _ _))).trans (List.Perm.swap _ _ _)).trans (List.Perm.cons _ (((List.Perm.cons _ ((List.Perm.cons _ (List.Perm.refl _)).trans (List.Perm.swap _ _ _))).trans (List.Perm.swap _ _ _)).trans (List.Perm.cons _ (List.Perm.refl _))))))))) (run_call2 Try.call27 rfl rfl) ?_
        rintro _ w67 ⟨rfl, v70, c71, u72, e73, ul74, Lb75, hk76, hu77, hm78, ht79, hl80, hd81, h68⟩
        have hH69 := Hp.mids (A := [_, _, _]) (R := [_, _, _]) h68
        simp only [List.cons_append, List.nil_append] at hH69
        have hH82 := hH69.perm (((List.Perm.cons _ ((List.Perm.cons _ ((List.Perm.cons _ (List.Perm.refl _)).trans (List.Perm.swap _ _ _))).trans (List.Perm.swap _ _ _))).trans (List.Perm.swap _ _ _)).trans (List.Perm.cons _ (((List.Perm.cons _ ((List.Perm.cons _ ((List.Perm.cons _ (List.Perm.refl _)).trans (List.Perm.swap _ _ _))).trans (List.Perm.swap _ _ _))).trans (List.Perm.swap _ _ _)).trans (List.Perm.cons _ (List.Perm.refl _)))))
        refine RL.nil ?_
        refine CW.region ?_
        refine RL.val rfl (run_add e29_62 rfl (by omega)) ?_
        refine RL.val rfl (run_move (v := I _) rfl) ?_
        refine RL.nil ?_
        refine ⟨(k + 1, v70, c71, u72, e73, ul74, (Lb75 ++ Z1)), ?_, ((((((((((((fr62.u rfl).u rfl).u rfl).u rfl).u rfl).u rfl).u rfl).u rfl).u rfl).u rfl).u rfl).u rfl).u rfl, (Hp.conv hH82 (by rw [nw_next h0 ‹k < _›, ← List.append_assoc]; done)), (congrArg I (by rfl)), ?_, ?_, ?_, ?_, ?_, ?_, ?_, ?_⟩
        · ((try dsimp only); omega)
        · omega
        · omega
        · (rw [nw_next h0 ‹k < _›, ← List.append_assoc]; exact hk76)
        · exact hu77
        · (rw [hm78, hms, addT_next h0, ← List.append_assoc, List.length_append, List.length_take]; congr 3; (have : (ndW (newN nd.length)).length = 4 := rfl); omega)
        · (obtain ⟨Lb0, rfl, hd0⟩ := hzz; exact (drop_app hpt ht79 hd0 hd81).1)
        · (obtain ⟨Lb0, rfl, hd0⟩ := hzz; exact ⟨Lb75 ++ Lb0, by rw [List.append_assoc], (drop_app hpt ht79 hd0 hd81).2⟩)
        · (have := hl80; omega)
      · refine CW.exit (id := 0) rfl ?_
        refine CW.seq ?_
        refine CW.region ?_
        refine RL.val rfl (run_move e0_62) ?_
        refine RL.val rfl (run_nilCheck rfl) ?_
        refine RL.val rfl (run_fieldAddr Try.underlying65 rfl (off := 3) rfl Try.sizeOf3 (by decide) rfl) ?_
        refine RL.val rfl (run_ld Try.underlying3 rfl rfl (hH62.cell (i := 2) rfl (v := I _) rfl)) ?_
        refine RL.val rfl (run_add rfl rfl (by omega)) ?_
        refine RL.val rfl (run_nilCheck rfl) ?_
        refine RL.val rfl (run_fieldAddr Try.underlying65 rfl (off := 3) rfl Try.sizeOf3 (by decide) rfl) ?_
        refine RL.set hH62 (i := 2) rfl (run_st rfl rfl (v := I _) rfl rfl rfl (hH62.blk (i := 2) rfl) (by simp)) ?_
        intro w83 hH84
        simp only [List.set_cons_zero, List.set_cons_succ] at hH84
        refine RL.nil ?_
        refine CW.seq ?_
        refine CW.region ?_
        refine RL.val rfl (run_move e3_62) ?_
        refine RL.val rfl (run_assign (v := I _) rfl) ?_
        refine RL.nil ?_
        refine CW.ret ?_
        have ek : k = 4 := by omega
        subst ek
        obtain ⟨Lb0, rfl, hd0⟩ := hzz
        exact out1 Try.results9 (v := I nd.length) rfl ⟨rfl, v1, c1, u1, c2, v54, ul1, Lb0, (by rw [wordsN_snoc]; exact hk1), hk2, (hms.trans addT_4), hpt, hd0, (by rw [wordsN_snoc, show (ts ++ [(ul.length : Int)]).length = ts.length + 1 by simp, show (ts ++ [(ul.length : Int)]).map I = ts.map I ++ [I ((ul.map Prod.fst).length : Int)] by simp]; exact (hH84.perm (((List.Perm.cons _ ((List.Perm.cons _ (List.Perm.refl _)).trans (List.Perm.swap _ _ _))).trans (List.Perm.swap _ _ _)).trans (List.Perm.cons _ (((List.Perm.cons _ ((List.Perm.cons _ (List.Perm.refl _)).trans (List.Perm.swap _ _ _))).trans (List.Perm.swap _ _ _)).trans (List.Perm.cons _ (((List.Perm.cons _ ((List.Perm.cons _ (List.Perm.refl _)).trans (List.Perm.swap _ _ _))).trans (List.Perm.swap _ _ _)).trans (List.Perm.cons _ (((List.Perm.cons _ ((List.Perm.cons _ (List.Perm.refl _)).trans (List.Perm.swap _ _ _))).trans (List.Perm.swap _ _ _)).trans (List.Perm.cons _ (List.Perm.refl _)))))))))).sub (.cons_cons _ (.cons_cons _ (.cons_cons _ (.cons_cons _ (.cons _ (.cons _ (List.Sublist.refl _))))))))⟩
    · refine AO.new rfl gnone rfl hH46 (.cons _ (.cons_cons _ (.cons_cons _ (.cons _ (List.Sublist.refl _))))) (f := fun b => .slice (some ⟨b, 0, none⟩) 1 1) (run_mkL Try.underlying37 rfl rfl (sz := 1) (vs := [I _]) rfl rfl (by decide) (by decide) rfl rfl) ?_
      intro b87 w85 hH86
      (try simp only [List.flatMap_cons, List.flatMap_nil, clI, clB, clS, clP, clL, clA, List.append_nil, List.cons_append, List.nil_append] at hH86)
      refine AN.one 4 (by kernel_rfl) ?_
      refine AO.read rfl gnone rfl hH86 (.cons _ (.cons _ (.cons_cons _ (.cons_cons _ (.cons _ (List.Sublist.refl _)))))) (run_ld Try.underlying37 rfl rfl (hH86.cell (i := 1) rfl rfl)) ?_
      refine AN.one 11 (by kernel_rfl) ?_
      refine AO.app rfl gnone rfl hH86 (j := 4) rfl (fun _ => (.cons _ (.cons _ (.cons_cons _ (.cons_cons _ (.cons _ (List.Sublist.refl _))))))) (hH86.slBlk (i := 0) (n := 1) (sz := 1) rfl rfl (by decide)) rfl rfl Try.underlying37 rfl rfl (size := 1) (bytes := 8) rfl rfl rfl (by decide) (by simp [Value.oneCell']) (by omega) (by simp only [maxLen]; omega) ?_
      intro v92 w90 hH91
      simp only [List.set_cons_zero, List.set_cons_succ] at hH91
      refine AN.take 12 rfl rfl (by kernel_rfl) (by kernel_rfl) (by kernel_rfl) (hH91.sub (.cons _ (.cons _ (.cons_cons _ (.cons_cons _ (.cons _ (List.Sublist.refl _))))))) (fun w hS => run_nilCheck rfl) ?_
      refine AN.take 13 rfl rfl (by kernel_rfl) (by kernel_rfl) (by kernel_rfl) (hH91.sub (.cons _ (.cons _ (.cons_cons _ (.cons_cons _ (.cons _ (List.Sublist.refl _))))))) (fun w hS => run_fieldAddr Try.underlying65 rfl (off := 2) rfl Try.sizeOf37 (by decide) rfl) ?_
      refine AN.one 14 (by kernel_rfl) ?_
      refine AO.set rfl gnone hH91 (j := 1) rfl (.cons _ (.cons _ (.cons_cons _ (.cons_cons _ (.cons _ (List.Sublist.refl _)))))) (run_st rfl rfl (v := v92) rfl (row_cells (hH91.get (i := 4) rfl)).1 (row_cells (hH91.get (i := 4) rfl)).2 (hH91.blk (i := 1) rfl) (by simp)) ?_
      intro w95 hH96
      simp only [List.set_cons_zero, List.set_cons_succ] at hH96
      refine AN.done (by kernel_rfl) ?_
      refine CW.seq ?_
      refine CW.seq ?_
      refine CW.region ?_
      refine RL.val rfl (run_move (v := I _) rfl) ?_
      refine RL.val rfl (run_move (v := I _) rfl) ?_
      refine RL.val rfl (run_move (v := I _) rfl) ?_
      refine RL.new rfl hH96 (f := fun b => (.slice (some ⟨b, 0, none⟩) 4 4)) (run_mkL Try.underlying37 rfl rfl (sz := 1) (vs := [I _, I 1, I _, I _]) rfl rfl (by decide) (by decide) rfl rfl) ?_
      intro b99 w97 hH98
      (try simp only [List.flatMap_cons, List.flatMap_nil, clI, clB, clS, clP, clL, clA, List.append_nil, List.cons_append, List.nil_append] at hH98)
      refine RL.val rfl (run_lenSl (hH98.slBlk (i := 0) (n := 4) (sz := 1) rfl rfl (by decide)) rfl Try.underlying37 rfl) ?_
      refine RL.val rfl (run_move (v := I 0) rfl) ?_
      refine RL.nil ?_
      refine CW.block ?_
      have e0 : ((wordsN nd) ++ (ndW (newN nd.length)).take (0 : Int).toNat) = (wordsN nd) := by simp
      refine CW.loop (G := (Int) × (Value) × (Option (Nat × Array Value)) × (Value) × (Option (Nat × Array Value)) × (List (Value × Und)) × (List Ent)) (fun (⟨k, v1, c1, u1, c2, ul1, Z1⟩ : (Int) × (Value) × (Option (Nat × Array Value)) × (Value) × (Option (Nat × Array Value)) × (List (Value × Und)) × (List Ent)) s' w' => (Fr [5, 29, 30, 31, 32, 33, 34, 35, 36, 37, 38, 39, 40] _ s') ∧ (Hp W0 w' (_ :: _ :: .blk F (.cells #[v1, u1, v92, I (cnt)] 65 (0, 0)) :: cE c1 v1 28 (((wordsN nd) ++ (ndW (newN nd.length)).take k.toNat).map U) :: cE c2 u1 1 (ul1.map Prod.fst) :: _ :: Z1)) ∧ (s' 29 = I k) ∧ (0 ≤ k) ∧ (k ≤ 4) ∧ (cO c1 v1 (((wordsN nd) ++ (ndW (newN nd.length)).take k.toNat).map U)) ∧ (cO c2 u1 (ul1.map Prod.fst)) ∧ (ul1.map Prod.snd = ul.map Prod.snd ++ addT (wordsN nd).length k) ∧ (ul1.take ul.length = ul) ∧ (∃ Lb, Z1 = Lb ++ L ∧ ∀ x ∈ ul1.drop ul.length, UndIn (⟨40, 47, 78, 3, 28⟩ : UT) F Lb x) ∧ (ul1.length ≤ ul.length + k.toNat)) (fun (⟨k, v1, c1, u1, c2, ul1, Z1⟩ : (Int) × (Value) × (Option (Nat × Array Value)) × (Value) × (Option (Nat × Array Value)) × (List (Value × Und)) × (List Ent)) => (4 - k).toNat) ((0, vW, cW, vU, cU, ul, L)) ⟨Fr.refl _ _, (by rw [e0]; exact hH98), rfl, (by omega), (by omega), (by rw [e0]; exact hkW), hkU, (by simp [addT]), (List.take_length ..), ⟨[], rfl, by simp⟩, (by omega)⟩ ?_
      rintro ⟨k, v1, c1, u1, c2, ul1, Z1⟩ sg100 w100 ⟨fr100, hH100, e29_100, h0, h4, hk1, hk2, hms, hpt, hzz, hul1⟩
      have e0_100 : sg100 0 = .pointer (some ⟨_, _, none⟩) := (fr100 0 rfl).trans rfl
      have e2_100 : sg100 2 = I _ := (fr100 2 rfl).trans rfl
      have e3_100 : sg100 3 = I _ := (fr100 3 rfl).trans rfl
      have e27_100 := (fr100 27 rfl).trans (by conv => lhs; whnf)
      have e28_100 : sg100 28 = I _ := (fr100 28 rfl).trans rfl
      refine CW.seq ?_
      refine CW.region ?_
      refine RL.val rfl (run_lss e29_100 e28_100) ?_
      refine RL.nil ?_
      refine CW.seq ?_
      refine CW.condP rfl (fun h102 => ?_) (fun h102 => ?_)
      · refine CW.skip ?_
        refine CW.seq ?_
        refine CW.block ?_
        refine CW.seq ?_
        refine CW.region ?_
        refine RL.val rfl (run_indexAddrS (hH100.slBlk (i := 0) (n := 4) (sz := 1) rfl rfl (by decide)) Try.underlying37 Try.sizeOf3 e27_100 e29_100 (by omega)) ?_
        refine RL.val rfl (run_ld Try.underlying3 rfl rfl ((hH100.slBlk (i := 0) (n := 4) (sz := 1) rfl rfl (by decide)).cell _ _ (lit_at h0 ‹k < _›))) ?_
        refine RL.val rfl (run_assign (v := I _) rfl) ?_
        refine RL.nil ?_
        refine CW.region ?_
        refine RL.val rfl (run_move e0_100) ?_
        refine RL.val rfl (run_nilCheck rfl) ?_
        refine RL.val rfl (run_fieldAddr Try.underlying65 rfl (off := 0) rfl Try.sizeOf63 (by decide) rfl) ?_
        refine RL.val rfl (run_fieldAddr Try.underlying63 rfl (off := 0) rfl Try.sizeOf61 (by decide) rfl) ?_
        refine RL.val rfl (run_move (v := I _) rfl) ?_
        refine RL.val rfl (run_convIU Try.underlying3 Try.underlying28 rfl) ?_
        refine RL.callT rfl (c_cells_Cells_Add _ _ _ _ _ _ _ _ _ _ _ _ (by simp only [List.length_append, List.length_take, wordsN_len]; omega) (by omega) _ hk1 hk2 (hH100.perm (((List.Perm.cons _ ((List.Perm.cons _ (List.Perm.refl _)).trans (List.Perm.swap _ _ _))).trans (List.Perm.swap _ _ _)).trans (List.Perm.cons _ (((List.Perm.cons _ ((List.Perm.cons _ (List.Perm.refl _)).trans (List.Perm.swap _ _ _))).trans (List.Perm.swap _ _ _)).trans (List.Perm.cons _ (((List.Perm.cons _ ((List.Perm.cons _ (List.Perm.refl _)).trans (List.Perm.swap _ _ _))).trans (List.Perm.swap _ _ _)).trans (List.Perm.cons _ (List.Perm.refl _))))))))) (run_call2 Try.call27 rfl rfl) ?_
        rintro _ w105 ⟨rfl, v108, c109, u110, e111, ul112, Lb113, hk114, hu115, hm116, ht117, hl118, hd119, h106⟩
        have hH107 := Hp.mids (A := [_, _, _]) (R := [_, _, _]) h106
        simp only [List.cons_append, List.nil_append] at hH107
        have hH120 := hH107.perm (((List.Perm.cons _ ((List.Perm.cons _ ((List.Perm.cons _ (List.Perm.refl _)).trans (List.Perm.swap _ _ _))).trans (List.Perm.swap _ _ _))).trans (List.Perm.swap _ _ _)).trans (List.Perm.cons _ (((List.Perm.cons _ ((List.Perm.cons _ ((List.Perm.cons _ (List.Perm.refl _)).trans (List.Perm.swap _ _ _))).trans (List.Perm.swap _ _ _))).trans (List.Perm.swap _ _ _)).trans (List.Perm.cons _ (List.Perm.refl _)))))
        refine RL.nil ?_
        refine CW.region ?_
        refine RL.val rfl (run_add e29_100 rfl (by omega)) ?_
        refine RL.val rfl (run_move (v := I _) rfl) ?_
        refine RL.nil ?_
        refine ⟨(k + 1, v108, c109, u110, e111, ul112, (Lb113 ++ Z1)), ?_, ((((((((((((fr100.u rfl).u rfl).u rfl).u rfl).u rfl).u rfl).u rfl).u rfl).u rfl).u rfl).u rfl).u rfl).u rfl, (Hp.conv hH120 (by rw [nw_next h0 ‹k < _›, ← List.append_assoc]; done)), (congrArg I (by rfl)), ?_, ?_, ?_, ?_, ?_, ?_, ?_, ?_⟩
        · ((try dsimp only); omega)
        · omega
        · omega
        · (rw [nw_next h0 ‹k < _›, ← List.append_assoc]; exact hk114)
        · exact hu115
        · (rw [hm116, hms, addT_next h0, ← List.append_assoc, List.length_append, List.length_take]; congr 3; (have : (ndW (newN nd.length)).length = 4 := rfl); omega)
        · (obtain ⟨Lb0, rfl, hd0⟩ := hzz; exact (drop_app hpt ht117 hd0 hd119).1)
        · (obtain ⟨Lb0, rfl, hd0⟩ := hzz; exact ⟨Lb113 ++ Lb0, by rw [List.append_assoc], (drop_app hpt ht117 hd0 hd119).2⟩)
        · (have := hl118; omega)
      · refine CW.exit (id := 0) rfl ?_
        refine CW.seq ?_
        refine CW.region ?_
        refine RL.val rfl (run_move e0_100) ?_
        refine RL.val rfl (run_nilCheck rfl) ?_
        refine RL.val rfl (run_fieldAddr Try.underlying65 rfl (off := 3) rfl Try.sizeOf3 (by decide) rfl) ?_
        refine RL.val rfl (run_ld Try.underlying3 rfl rfl (hH100.cell (i := 2) rfl (v := I _) rfl)) ?_
        refine RL.val rfl (run_add rfl rfl (by omega)) ?_
        refine RL.val rfl (run_nilCheck rfl) ?_
        refine RL.val rfl (run_fieldAddr Try.underlying65 rfl (off := 3) rfl Try.sizeOf3 (by decide) rfl) ?_
        refine RL.set hH100 (i := 2) rfl (run_st rfl rfl (v := I _) rfl rfl rfl (hH100.blk (i := 2) rfl) (by simp)) ?_
        intro w121 hH122
        simp only [List.set_cons_zero, List.set_cons_succ] at hH122
        refine RL.nil ?_
        refine CW.seq ?_
        refine CW.region ?_
        refine RL.val rfl (run_move e3_100) ?_
        refine RL.val rfl (run_assign (v := I _) rfl) ?_
        refine RL.nil ?_
        refine CW.ret ?_
        have ek : k = 4 := by omega
        subst ek
        obtain ⟨Lb0, rfl, hd0⟩ := hzz
        exact out1 Try.results9 (v := I nd.length) rfl ⟨rfl, v1, c1, u1, c2, v92, ul1, Lb0, (by rw [wordsN_snoc]; exact hk1), hk2, (hms.trans addT_4), hpt, hd0, (by rw [wordsN_snoc, show (ts ++ [(ul.length : Int)]).length = ts.length + 1 by simp, show (ts ++ [(ul.length : Int)]).map I = ts.map I ++ [I ((ul.map Prod.fst).length : Int)] by simp]; exact (hH122.perm (((List.Perm.cons _ ((List.Perm.cons _ (List.Perm.refl _)).trans (List.Perm.swap _ _ _))).trans (List.Perm.swap _ _ _)).trans (List.Perm.cons _ (((List.Perm.cons _ ((List.Perm.cons _ (List.Perm.refl _)).trans (List.Perm.swap _ _ _))).trans (List.Perm.swap _ _ _)).trans (List.Perm.cons _ (((List.Perm.cons _ ((List.Perm.cons _ (List.Perm.refl _)).trans (List.Perm.swap _ _ _))).trans (List.Perm.swap _ _ _)).trans (List.Perm.cons _ (((List.Perm.cons _ ((List.Perm.cons _ (List.Perm.refl _)).trans (List.Perm.swap _ _ _))).trans (List.Perm.swap _ _ _)).trans (List.Perm.cons _ (List.Perm.refl _)))))))))).sub (.cons_cons _ (.cons_cons _ (.cons_cons _ (.cons_cons _ (.cons _ (.cons _ (List.Sublist.refl _))))))))⟩
set_option maxHeartbeats 1000000 in
theorem c_forest_Forest_Union (W0 : World) (F : Nat) (vW vU vT : Value) (cnt : Int) (cW cU : Option (Nat × Array Value)) (nd : List Fnd) (ul : List (Value × Und)) (ts : List Int) (L : List Ent) (cl : List Nat) (i j : Int) (hn : nd.length ≤ 100000) (hul : ul.length ≤ 1000000) (hts : ts.length ≤ 1000000) (hcn : -1000000 ≤ cnt ∧ cnt ≤ 1000000) (hf : Fo nd cl) (w : World) (hkW : cO cW vW ((wordsN nd).map U)) (hkU : cO cU vU (ul.map Prod.fst)) (hH : Hp W0 w (.blk F (.cells #[vW, vU, vT, I (cnt)] 65 (0, 0)) :: cE cW vW 28 ((wordsN nd).map U) :: cE cU vU 1 (ul.map Prod.fst) :: .row vT 3 1 ts.length (ts.map I) :: L)) : Calls Try.prog 10 #[.pointer (some ⟨F, 0, none⟩), I i, I j] w (Ret fun u w' => (u = B false ∧ ¬ unOk nd.length cl i j ∧ Hp W0 w' (.blk F (.cells #[vW, vU, vT, I (cnt)] 65 (0, 0)) :: cE cW vW 28 ((wordsN nd).map U) :: cE cU vU 1 (ul.map Prod.fst) :: .row vT 3 1 ts.length (ts.map I) :: L)) ∨ (u = B true ∧ ∃ (a b : Nat), UnP nd cl i j a b ∧ ∃ (v1 : Value) (c1 : Option (Nat × Array Value)) (u1 : Value) (c2 : Option (Nat × Array Value)) (t1 : Value) (ul1 : List (Value × Und)) (Lb : List Ent), cO c1 v1 ((wordsN (joinN nd a b)).map U) ∧ cO c2 u1 (ul1.map Prod.fst) ∧ Later (wordsN nd) (ul.map Prod.snd) (wordsN (joinN nd a b)) (ul1.map Prod.snd) ∧ ul1.take ul.length = ul ∧ ul1.length ≤ ul.length + 5 ∧ (∀ x ∈ ul1.drop ul.length, UndIn (⟨40, 47, 78, 3, 28⟩ : UT) F Lb x) ∧ Hp W0 w' (.blk F (.cells #[v1, u1, t1, I (cnt - 1)] 65 (0, 0)) :: cE c1 v1 28 ((wordsN (joinN nd a b)).map U) :: cE c2 u1 1 (ul1.map Prod.fst) :: .row t1 3 1 (ts ++ [(ul.length : Int)]).length ((ts ++ [(ul.length : Int)]).map I) :: (Lb ++ L)))) := by
  have hwl := wordsN_len nd
  refine enter Try.func10 rfl Try.ntmps10 rfl ?_
  refine CW.seq ?_
  refine CW.region ?_
  refine RL.val rfl (run_assign (v := B false) rfl) ?_
  refine RL.nil ?_
  refine CW.seq ?_
  refine CW.seq ?_
  refine CW.region ?_
  refine RL.val rfl (run_move (v := .pointer (some ⟨_, _, none⟩)) rfl) ?_
  refine RL.val rfl (run_move (v := I _) rfl) ?_
  refine RL.callP rfl hH (c_forest_Forest_is _ _ _ _ _ _ _ (by omega) _ (hH.blk (i := 0) rfl) (hH.slU (i := 1) rfl hkW)) (run_call2 Try.call28 rfl rfl) ?_
  intro w1 hH2
  refine RL.val rfl (run_notP rfl) ?_
  refine RL.val rfl (run_move (v := B _) rfl) ?_
  refine RL.splitP (dj := 16) rfl (fun h6 => ?_) (fun h6 => ?_)
  · refine RL.gF rfl rfl (bT h6) rfl ?_
    refine RL.gF rfl rfl (bT h6) rfl ?_
    refine RL.gF rfl rfl (bT h6) rfl ?_
    refine RL.gF rfl rfl (bT h6) rfl ?_
    refine RL.val rfl (run_pickT (bT h6) (v := B true) rfl) ?_
    refine RL.nil ?_
    refine CW.condT rfl ?_
    refine CW.seq ?_
    refine CW.region ?_
    refine RL.val rfl (run_assign (v := B false) rfl) ?_
    refine RL.nil ?_
    refine CW.ret ?_
    exact out1 Try.results10 (v := B false) rfl (.inl ⟨rfl, (by exact un_no1 (by omega)), hH2⟩)
  · refine RL.gT rfl (bF h6) ?_
    refine RL.val rfl (run_move (v := .pointer (some ⟨_, _, none⟩)) rfl) ?_
    refine RL.gT rfl (bF h6) ?_
    refine RL.val rfl (run_move (v := I _) rfl) ?_
    refine RL.gT rfl (bF h6) ?_
    refine RL.callP rfl hH2 (c_forest_Forest_is _ _ _ _ _ _ _ (by omega) _ (hH2.blk (i := 0) rfl) (hH2.slU (i := 1) rfl hkW)) (run_call2 Try.call28 rfl rfl) ?_
    intro w7 hH8
    refine RL.gT rfl (bF h6) ?_
    refine RL.val rfl (run_notP rfl) ?_
    refine RL.val rfl (run_pickF (bF h6) (v := B _) rfl) ?_
    refine RL.nil ?_
    refine CW.condP rfl (fun h12 => ?_) (fun h12 => ?_)
    · refine CW.seq ?_
      refine CW.region ?_
      refine RL.val rfl (run_assign (v := B false) rfl) ?_
      refine RL.nil ?_
      refine CW.ret ?_
      exact out1 Try.results10 (v := B false) rfl (.inl ⟨rfl, (by exact un_no2 (by omega)), hH8⟩)
    · refine CW.skip ?_
      refine CW.seq ?_
      refine CW.region ?_
      refine RL.val rfl (run_move (v := .pointer (some ⟨_, _, none⟩)) rfl) ?_
      refine RL.val rfl (run_move (v := I _) rfl) ?_
      refine RL.callP rfl hH8 (c_forest_Forest_root _ _ _ _ _ nd cl _ (by omega) (by assumption) (by omega) _ (hH8.blk (i := 0) rfl) (hH8.slU (i := 1) rfl hkW)) (run_call2 Try.call29 rfl rfl) ?_
      intro w13 hH14
      refine RL.val rfl (run_move (v := .pointer (some ⟨_, _, none⟩)) rfl) ?_
      refine RL.val rfl (run_move (v := I _) rfl) ?_
      refine RL.callP rfl hH14 (c_forest_Forest_root _ _ _ _ _ nd cl _ (by omega) (by assumption) (by omega) _ (hH14.blk (i := 0) rfl) (hH14.slU (i := 1) rfl hkW)) (run_call2 Try.call29 rfl rfl) ?_
      intro w15 hH16
      refine RL.val rfl (run_assign (v := I _) rfl) ?_
      refine RL.val rfl (run_assign (v := I _) rfl) ?_
      refine RL.nil ?_
      refine CW.seq ?_
      refine CW.seq ?_
      refine CW.region ?_
      refine RL.val rfl (run_move (v := I _) rfl) ?_
      refine RL.val rfl (run_move (v := I _) rfl) ?_
      refine RL.val rfl (run_eql rfl rfl) ?_
      refine RL.nil ?_
      refine CW.condP rfl (fun h18 => ?_) (fun h18 => ?_)
      · refine CW.seq ?_
        refine CW.region ?_
        refine RL.val rfl (run_assign (v := B false) rfl) ?_
        refine RL.nil ?_
        refine CW.ret ?_
        exact out1 Try.results10 (v := B false) rfl (.inl ⟨rfl, (by exact un_no3 hf (by omega) (by omega) (by omega)), hH16⟩)
      · refine CW.skip ?_
        refine CW.seq ?_
        refine CW.region ?_
        refine RL.val rfl (run_move (v := .pointer (some ⟨_, _, none⟩)) rfl) ?_
        refine RL.val rfl (run_nilCheck rfl) ?_
        refine RL.val rfl (run_fieldAddr Try.underlying65 rfl (off := 0) rfl Try.sizeOf63 (by decide) rfl) ?_
        refine RL.val rfl (run_assign (v := .pointer (some ⟨_, _, none⟩)) rfl) ?_
        refine RL.nil ?_
        refine CW.cutG (G := (Value)) hH16 [34, 35, 36, 37, 38, 39, 40, 41, 42, 43, 44, 45, 46] (fun (L : List Ent) (t1 : (Value)) => ((L).set 0 (.blk F (.cells #[vW, vU, t1, I (cnt)] 65 (0, 0)))).set 3 (.row t1 3 1 (ts.length + 1) (ts.map I ++ [I ((ul.map Prod.fst).length : Int)]))) (fun (t1 : (Value)) s' => True) ?_ ?_
        · refine CW.regionS (by kernel_rfl) hH16 (.cons _ (.cons_cons _ (.cons_cons _ (.cons _ (List.Sublist.refl _))))) ?_
          intro w19 hH20
          refine AN.take 0 rfl rfl (by kernel_rfl) (by kernel_rfl) (by kernel_rfl) (hH20.sub (.cons _ (.cons_cons _ (.cons_cons _ (.cons _ (List.Sublist.refl _)))))) (fun w hS => run_move (v := .pointer (some ⟨_, _, none⟩)) rfl) ?_
          refine AN.take 1 rfl rfl (by kernel_rfl) (by kernel_rfl) (by kernel_rfl) (hH20.sub (.cons _ (.cons_cons _ (.cons_cons _ (.cons _ (List.Sublist.refl _)))))) (fun w hS => run_move (v := .pointer (some ⟨_, _, none⟩)) rfl) ?_
          refine AN.take 2 rfl rfl (by kernel_rfl) (by kernel_rfl) (by kernel_rfl) (hH20.sub (.cons _ (.cons_cons _ (.cons_cons _ (.cons _ (List.Sublist.refl _)))))) (fun w hS => run_nilCheck rfl) ?_
          refine AN.take 3 rfl rfl (by kernel_rfl) (by kernel_rfl) (by kernel_rfl) (hH20.sub (.cons _ (.cons_cons _ (.cons_cons _ (.cons _ (List.Sublist.refl _)))))) (fun w hS => run_fieldAddr Try.underlying65 rfl (off := 2) rfl Try.sizeOf37 (by decide) rfl) ?_
          refine AN.take 5 rfl rfl (by kernel_rfl) (by kernel_rfl) (by kernel_rfl) (hH20.sub (.cons _ (.cons_cons _ (.cons_cons _ (.cons _ (List.Sublist.refl _)))))) (fun w hS => run_move (v := .pointer (some ⟨_, _, none⟩)) rfl) ?_
          refine AN.take 6 rfl rfl (by kernel_rfl) (by kernel_rfl) (by kernel_rfl) (hH20.sub (.cons _ (.cons_cons _ (.cons_cons _ (.cons _ (List.Sublist.refl _)))))) (fun w hS => run_nilCheck rfl) ?_
          refine AN.take 7 rfl rfl (by kernel_rfl) (by kernel_rfl) (by kernel_rfl) (hH20.sub (.cons _ (.cons_cons _ (.cons_cons _ (.cons _ (List.Sublist.refl _)))))) (fun w hS => run_fieldAddr Try.underlying63 rfl (off := 0) rfl Try.sizeOf61 (by decide) rfl) ?_
          refine AN.two 4 8 (by kernel_rfl) ?_ ?_
          · refine AO.read rfl gnone rfl hH20 (.cons _ (.cons_cons _ (.cons_cons _ (.cons _ (List.Sublist.refl _))))) (run_ld Try.underlying37 rfl rfl (hH20.cell (i := 0) rfl rfl)) ?_
            refine AN.one 8 (by kernel_rfl) ?_
            refine AO.callP rfl gnone rfl hH20 (.cons _ (.cons_cons _ (.cons_cons _ (.cons _ (List.Sublist.refl _))))) (c_cells_Cells_Mark _ _ _ _ _ _ _ _ (hH20.blk (i := 0) rfl) (hH20.slU (i := 1) rfl hkW) (hH20.slE (i := 2) rfl hkU)) (run_call1 Try.call26 rfl) ?_
            intro w23 hH24
            refine AN.one 9 (by kernel_rfl) ?_
            refine AO.new rfl gnone rfl hH24 (.cons _ (.cons_cons _ (.cons_cons _ (.cons _ (List.Sublist.refl _))))) (f := fun b => .slice (some ⟨b, 0, none⟩) 1 1) (run_mkL Try.underlying37 rfl rfl (sz := 1) (vs := [I _]) rfl rfl (by decide) (by decide) rfl rfl) ?_
            intro b27 w25 hH26
            (try simp only [List.flatMap_cons, List.flatMap_nil, clI, clB, clS, clP, clL, clA, List.append_nil, List.cons_append, List.nil_append] at hH26)
            refine AN.one 10 (by kernel_rfl) ?_
            refine AO.app rfl gnone rfl hH26 (j := 4) rfl (fun _ => (.cons _ (.cons _ (.cons_cons _ (.cons_cons _ (.cons _ (List.Sublist.refl _))))))) (hH26.slBlk (i := 0) (n := 1) (sz := 1) rfl rfl (by decide)) rfl rfl Try.underlying37 rfl rfl (size := 1) (bytes := 8) rfl rfl rfl (by decide) (by simp [Value.oneCell']) (by omega) (by simp only [maxLen]; omega) ?_
            intro v30 w28 hH29
            simp only [List.set_cons_zero, List.set_cons_succ] at hH29
            refine AN.take 11 rfl rfl (by kernel_rfl) (by kernel_rfl) (by kernel_rfl) (hH29.sub (.cons _ (.cons _ (.cons_cons _ (.cons_cons _ (.cons _ (List.Sublist.refl _))))))) (fun w hS => run_nilCheck rfl) ?_
            refine AN.take 12 rfl rfl (by kernel_rfl) (by kernel_rfl) (by kernel_rfl) (hH29.sub (.cons _ (.cons _ (.cons_cons _ (.cons_cons _ (.cons _ (List.Sublist.refl _))))))) (fun w hS => run_fieldAddr Try.underlying65 rfl (off := 2) rfl Try.sizeOf37 (by decide) rfl) ?_
            refine AN.one 13 (by kernel_rfl) ?_
            refine AO.set rfl gnone hH29 (j := 1) rfl (.cons _ (.cons _ (.cons_cons _ (.cons_cons _ (.cons _ (List.Sublist.refl _)))))) (run_st rfl rfl (v := v30) rfl (row_cells (hH29.get (i := 4) rfl)).1 (row_cells (hH29.get (i := 4) rfl)).2 (hH29.blk (i := 1) rfl) (by simp)) ?_
            intro w33 hH34
            simp only [List.set_cons_zero, List.set_cons_succ] at hH34
            refine AN.done (by kernel_rfl) ?_
            refine ⟨((((((((((((((Fr.refl _ _)).u rfl).u rfl).u rfl).u rfl).u rfl).u rfl).u rfl).u rfl).u rfl).u rfl).u rfl).u rfl).u rfl, v30, (Hp.conv (hH34.sub (.cons _ (List.Sublist.refl _))) (by rfl)), trivial⟩
          · refine AO.callP rfl gnone rfl hH20 (.cons _ (.cons_cons _ (.cons_cons _ (.cons _ (List.Sublist.refl _))))) (c_cells_Cells_Mark _ _ _ _ _ _ _ _ (hH20.blk (i := 0) rfl) (hH20.slU (i := 1) rfl hkW) (hH20.slE (i := 2) rfl hkU)) (run_call1 Try.call26 rfl) ?_
            intro w35 hH36
            refine AN.two 4 9 (by kernel_rfl) ?_ ?_
            · refine AO.read rfl gnone rfl hH36 (.cons _ (.cons_cons _ (.cons_cons _ (.cons _ (List.Sublist.refl _))))) (run_ld Try.underlying37 rfl rfl (hH36.cell (i := 0) rfl rfl)) ?_
              refine AN.one 9 (by kernel_rfl) ?_
              refine AO.new rfl gnone rfl hH36 (.cons _ (.cons_cons _ (.cons_cons _ (.cons _ (List.Sublist.refl _))))) (f := fun b => .slice (some ⟨b, 0, none⟩) 1 1) (run_mkL Try.underlying37 rfl rfl (sz := 1) (vs := [I _]) rfl rfl (by decide) (by decide) rfl rfl) ?_
              intro b41 w39 hH40
              (try simp only [List.flatMap_cons, List.flatMap_nil, clI, clB, clS, clP, clL, clA, List.append_nil, List.cons_append, List.nil_append] at hH40)
              refine AN.one 10 (by kernel_rfl) ?_
              refine AO.app rfl gnone rfl hH40 (j := 4) rfl (fun _ => (.cons _ (.cons _ (.cons_cons _ (.cons_cons _ (.cons _ (List.Sublist.refl _))))))) (hH40.slBlk (i := 0) (n := 1) (sz := 1) rfl rfl (by decide)) rfl rfl Try.underlying37 rfl rfl (size := 1) (bytes := 8) rfl rfl rfl (by decide) (by simp [Value.oneCell']) (by omega) (by simp only [maxLen]; omega) ?_
              intro v44 w42 hH43
              simp only [List.set_cons_zero, List.set_cons_succ] at hH43
              refine AN.take 11 rfl rfl (by kernel_rfl) (by kernel_rfl) (by kernel_rfl) (hH43.sub (.cons _ (.cons _ (.cons_cons _ (.cons_cons _ (.cons _ (List.Sublist.refl _))))))) (fun w hS => run_nilCheck rfl) ?_
              refine AN.take 12 rfl rfl (by kernel_rfl) (by kernel_rfl) (by kernel_rfl) (hH43.sub (.cons _ (.cons _ (.cons_cons _ (.cons_cons _ (.cons _ (List.Sublist.refl _))))))) (fun w hS => run_fieldAddr Try.underlying65 rfl (off := 2) rfl Try.sizeOf37 (by decide) rfl) ?_
              refine AN.one 13 (by kernel_rfl) ?_
              refine AO.set rfl gnone hH43 (j := 1) rfl (.cons _ (.cons _ (.cons_cons _ (.cons_cons _ (.cons _ (List.Sublist.refl _)))))) (run_st rfl rfl (v := v44) rfl (row_cells (hH43.get (i := 4) rfl)).1 (row_cells (hH43.get (i := 4) rfl)).2 (hH43.blk (i := 1) rfl) (by simp)) ?_
              intro w47 hH48
              simp only [List.set_cons_zero, List.set_cons_succ] at hH48
              refine AN.done (by kernel_rfl) ?_
              refine ⟨((((((((((((((Fr.refl _ _)).u rfl).u rfl).u rfl).u rfl).u rfl).u rfl).u rfl).u rfl).u rfl).u rfl).u rfl).u rfl).u rfl, v44, (Hp.conv (hH48.sub (.cons _ (List.Sublist.refl _))) (by rfl)), trivial⟩
            · refine AO.new rfl gnone rfl hH36 (.cons _ (.cons_cons _ (.cons_cons _ (.cons _ (List.Sublist.refl _))))) (f := fun b => .slice (some ⟨b, 0, none⟩) 1 1) (run_mkL Try.underlying37 rfl rfl (sz := 1) (vs := [I _]) rfl rfl (by decide) (by decide) rfl rfl) ?_
              intro b51 w49 hH50
              (try simp only [List.flatMap_cons, List.flatMap_nil, clI, clB, clS, clP, clL, clA, List.append_nil, List.cons_append, List.nil_append] at hH50)
              refine AN.one 4 (by kernel_rfl) ?_
              refine AO.read rfl gnone rfl hH50 (.cons _ (.cons _ (.cons_cons _ (.cons_cons _ (.cons _ (List.Sublist.refl _)))))) (run_ld Try.underlying37 rfl rfl (hH50.cell (i := 1) rfl rfl)) ?_
              refine AN.one 10 (by kernel_rfl) ?_
              refine AO.app rfl gnone rfl hH50 (j := 4) rfl (fun _ => (.cons _ (.cons _ (.cons_cons _ (.cons_cons _ (.cons _ (List.Sublist.refl _))))))) (hH50.slBlk (i := 0) (n := 1) (sz := 1) rfl rfl (by decide)) rfl rfl Try.underlying37 rfl rfl (size := 1) (bytes := 8) rfl rfl rfl (by decide) (by simp [Value.oneCell']) (by omega) (by simp only [maxLen]; omega) ?_
              intro v56 w54 hH55
              simp only [List.set_cons_zero, List.set_cons_succ] at hH55
              refine AN.take 11 rfl rfl (by kernel_rfl) (by kernel_rfl) (by kernel_rfl) (hH55.sub (.cons _ (.cons _ (.cons_cons _ (.cons_cons _ (.cons _ (List.Sublist.refl _))))))) (fun w hS => run_nilCheck rfl) ?_
              refine AN.take 12 rfl rfl (by kernel_rfl) (by kernel_rfl) (by kernel_rfl) (hH55.sub (.cons _ (.cons _ (.cons_cons _ (.cons_cons _ (.cons _ (List.Sublist.refl _))))))) (fun w hS => run_fieldAddr Try.underlying65 rfl (off := 2) rfl Try.sizeOf37 (by decide) rfl) ?_
              refine AN.one 13 (by kernel_rfl) ?_
              refine AO.set rfl gnone hH55 (j := 1) rfl (.cons _ (.cons _ (.cons_cons _ (.cons_cons _ (.cons _ (List.Sublist.refl _)))))) (run_st rfl rfl (v := v56) rfl (row_cells (hH55.get (i := 4) rfl)).1 (row_cells (hH55.get (i := 4) rfl)).2 (hH55.blk (i := 1) rfl) (by simp)) ?_
              intro w59 hH60
              simp only [List.set_cons_zero, List.set_cons_succ] at hH60
              refine AN.done (by kernel_rfl) ?_
              refine ⟨((((((((((((((Fr.refl _ _)).u rfl).u rfl).u rfl).u rfl).u rfl).u rfl).u rfl).u rfl).u rfl).u rfl).u rfl).u rfl).u rfl, v56, (Hp.conv (hH60.sub (.cons _ (List.Sublist.refl _))) (by rfl)), trivial⟩
        · rintro t1 sg61 w61 fr61 hH61 -
          simp only [List.set_cons_zero, List.set_cons_succ] at hH61
          have e0_61 : sg61 0 = .pointer (some ⟨_, _, none⟩) := (fr61 0 rfl).trans rfl
          have e6_61 : sg61 6 = B _ := (fr61 6 rfl).trans rfl
          have e7_61 : sg61 7 = I _ := (fr61 7 rfl).trans rfl
          have e8_61 : sg61 8 = I _ := (fr61 8 rfl).trans rfl
          have e9_61 : sg61 9 = .pointer (some ⟨_, _, none⟩) := (fr61 9 rfl).trans rfl
          refine CW.cutG (G := (Nat) × (Nat)) hH61 [7, 8, 47, 48, 49, 50, 51, 52, 53, 54, 55] (fun (L : List Ent) (⟨a, b⟩ : (Nat) × (Nat)) => L) (fun (⟨a, b⟩ : (Nat) × (Nat)) s' => (s' 7 = I (a : Int)) ∧ (s' 8 = I (b : Int)) ∧ (UnP nd cl i j a b)) ?_ ?_
          · refine CW.seq ?_
            refine CW.region ?_
            refine RL.val rfl (run_move e9_61) ?_
            refine RL.val rfl (run_move e7_61) ?_
            refine RL.callP rfl hH61 (c_forest_nodes_cell _ _ _ _ _ _ _ _ (by have := (rootC_is hf (i := i.toNat) (by omega)).1; have := (rootC_is hf (i := j.toNat) (by omega)).1; omega) _ (hH61.blk (i := 0) rfl) (hH61.slU (i := 1) rfl hkW)) (run_call3 Try.call30 rfl rfl (show _ = I 1 from rfl)) ?_
            intro w62 hH63
            refine RL.val rfl (run_move e9_61) ?_
            refine RL.val rfl (run_move e8_61) ?_
            refine RL.callP rfl hH63 (c_forest_nodes_cell _ _ _ _ _ _ _ _ (by have := (rootC_is hf (i := i.toNat) (by omega)).1; have := (rootC_is hf (i := j.toNat) (by omega)).1; omega) _ (hH63.blk (i := 0) rfl) (hH63.slU (i := 1) rfl hkW)) (run_call3 Try.call30 rfl rfl (show _ = I 1 from rfl)) ?_
            intro w64 hH65
            refine RL.val rfl (run_lss rfl rfl) ?_
            refine RL.nil ?_
            refine CW.condP rfl (fun h67 => ?_) (fun h67 => ?_)
            · refine CW.region ?_
              refine RL.val rfl (run_move e8_61) ?_
              refine RL.val rfl (run_move e7_61) ?_
              refine RL.val rfl (run_assign (v := I _) rfl) ?_
              refine RL.val rfl (run_assign (v := I _) rfl) ?_
              refine RL.nil ?_
              refine ⟨((((((((((((Fr.refl _ _)).u rfl).u rfl).u rfl).u rfl).u rfl).u rfl).u rfl).u rfl).u rfl).u rfl).u rfl, (rootC nd cl j.toNat, rootC nd cl i.toNat), hH65, (congrArg I ?_), (congrArg I ?_), ?_⟩
              · rfl
              · rfl
              · exact (un_start hf (by omega) (by omega) (by omega)).swap
            · refine CW.skip ?_
              refine ⟨((((((((Fr.refl _ _)).u rfl).u rfl).u rfl).u rfl).u rfl).u rfl).u rfl, (rootC nd cl i.toNat, rootC nd cl j.toNat), hH65, (Eq.trans e7_61 (congrArg I ?_)), (Eq.trans e8_61 (congrArg I ?_)), ?_⟩
              · rfl
              · rfl
              · exact un_start hf (by omega) (by omega) (by omega)
          · rintro ⟨a, b⟩ sg68 w68 fr68 hH68 ⟨e7_68, e8_68, hP⟩
            have e0_68 := (fr68 0 rfl).trans e0_61
            have e6_68 := (fr68 6 rfl).trans e6_61
            have e9_68 := (fr68 9 rfl).trans e9_61
            have ha := hP.ha
            have hb := hP.hb
            have hab := hP.ab
            have sa := hf.small ha
            have sb := hf.small hb
            have ta := hf.smallL ha hP.ua
            have tb := hf.smallL hb hP.ub
            refine CW.seq ?_
            refine CW.region ?_
            refine RL.val rfl (run_move e9_68) ?_
            refine RL.val rfl (run_move e8_68) ?_
            refine RL.val rfl (run_move e7_68) ?_
            refine RL.callT rfl (c_forest_nodes_put _ _ _ _ _ _ _ _ _ _ _ _ _ _ (by omega) (by omega) (by omega) _ hkW hkU hH68) (run_call4 Try.call31 rfl rfl (show _ = I 0 from rfl) rfl) ?_
            rintro _ w71 ⟨rfl, v74, c75, u76, e77, ul78, Lb79, hk80, hu81, hm82, ht83, hl84, hd85, h72⟩
            have hH73 := Hp.mids (A := [_, _, _]) (R := [_]) h72
            simp only [List.cons_append, List.nil_append] at hH73
            have l1 : (stUp nd b a).length = nd.length := by simp [stUp, stSz, stLe, stNx]
            have wl1 := wordsN_len (stUp nd b a)
            have lt1 : Later (wordsN nd) (ul.map Prod.snd) (wordsN (stUp nd b a)) (ul78.map Prod.snd) := by rw [hm82, ← put_up (nd := nd) hb]; exact Later.set (by omega)
            rw [put_up hb] at hk80 hH73
            have la1 := lt1
            have dr1 := And.intro ht83 hd85
            refine RL.nil ?_
            refine CW.seq ?_
            refine CW.region ?_
            refine RL.val rfl (run_move e9_68) ?_
            refine RL.val rfl (run_move e7_68) ?_
            refine RL.val rfl (run_move e9_68) ?_
            refine RL.val rfl (run_move e7_68) ?_
            refine RL.callP rfl hH73 (c_forest_nodes_cell _ _ _ _ _ _ _ _ (by omega) _ (hH73.blk (i := 0) rfl) (hH73.slU (i := 1) rfl hk80)) (run_call3 Try.call30 rfl rfl (show _ = I 1 from rfl)) ?_
            intro w86 hH87
            have c64 := rd_sz (nd := (stUp nd b a)) (a := a) (v := szF nd a) (by rw [l1]; exact ha) szF_stUp (by omega)
            refine RL.val rfl (run_move e9_68) ?_
            refine RL.val rfl (run_move e8_68) ?_
            refine RL.callP rfl hH87 (c_forest_nodes_cell _ _ _ _ _ _ _ _ (by omega) _ (hH87.blk (i := 0) rfl) (hH87.slU (i := 1) rfl hk80)) (run_call3 Try.call30 rfl rfl (show _ = I 1 from rfl)) ?_
            intro w88 hH89
            have c67 := rd_sz (nd := (stUp nd b a)) (a := b) (v := szF nd b) (by rw [l1]; exact hb) szF_stUp (by omega)
            refine RL.val rfl (run_add (congrArg I c64) (congrArg I c67) (by omega)) ?_
            refine RL.callT rfl (c_forest_nodes_put _ _ _ _ _ _ _ _ _ _ _ _ _ _ (by omega) (by omega) (by omega) _ hk80 hu81 hH89) (run_call4 Try.call31 rfl rfl (show _ = I 1 from rfl) (congrArg I (show _ = ((szF nd a + szF nd b : Nat) : Int) from by omega))) ?_
            rintro _ w92 ⟨rfl, v95, c96, u97, e98, ul99, Lb100, hk101, hu102, hm103, ht104, hl105, hd106, h93⟩
            have hH94 := Hp.mids (A := [_, _, _]) (R := [_]) h93
            simp only [List.cons_append, List.nil_append] at hH94
            have l2 : (stSz (stUp nd b a) a (szF nd a + szF nd b)).length = nd.length := by simp [stUp, stSz, stLe, stNx]
            have wl2 := wordsN_len (stSz (stUp nd b a) a (szF nd a + szF nd b))
            have lt2 : Later (wordsN (stUp nd b a)) (ul78.map Prod.snd) (wordsN (stSz (stUp nd b a) a (szF nd a + szF nd b))) (ul99.map Prod.snd) := by rw [hm103, ← put_sz (nd := (stUp nd b a)) (by rw [l1]; exact ha)]; exact Later.set (by omega)
            rw [put_sz (by rw [l1]; exact ha)] at hk101 hH94
            have la2 := la1.trans lt2
            have dr2 := drop_app dr1.1 ht104 dr1.2 hd106
            refine RL.nil ?_
            refine CW.seq ?_
            refine CW.region ?_
            refine RL.val rfl (run_move e9_68) ?_
            refine RL.val rfl (run_move e7_68) ?_
            refine RL.val rfl (run_move e9_68) ?_
            refine RL.val rfl (run_move e7_68) ?_
            refine RL.callP rfl hH94 (c_forest_nodes_cell _ _ _ _ _ _ _ _ (by omega) _ (hH94.blk (i := 0) rfl) (hH94.slU (i := 1) rfl hk101)) (run_call3 Try.call30 rfl rfl (show _ = I 3 from rfl)) ?_
            intro w107 hH108
            have c74 := rd_le (nd := (stSz (stUp nd b a) a (szF nd a + szF nd b))) (a := a) (v := leF nd a) (by rw [l2]; exact ha) (leF_stSz.trans leF_stUp) (by omega)
            refine RL.val rfl (run_move e9_68) ?_
            refine RL.val rfl (run_move e8_68) ?_
            refine RL.callP rfl hH108 (c_forest_nodes_cell _ _ _ _ _ _ _ _ (by omega) _ (hH108.blk (i := 0) rfl) (hH108.slU (i := 1) rfl hk101)) (run_call3 Try.call30 rfl rfl (show _ = I 3 from rfl)) ?_
            intro w109 hH110
            have c77 := rd_le (nd := (stSz (stUp nd b a) a (szF nd a + szF nd b))) (a := b) (v := leF nd b) (by rw [l2]; exact hb) (leF_stSz.trans leF_stUp) (by omega)
            refine RL.val rfl (run_minI (congrArg I c74) (congrArg I c77)) ?_
            refine RL.callT rfl (c_forest_nodes_put _ _ _ _ _ _ _ _ _ _ _ _ _ _ (by omega) (by omega) (by omega) _ hk101 hu102 hH110) (run_call4 Try.call31 rfl rfl (show _ = I 3 from rfl) (congrArg I (show _ = ((min (leF nd a) (leF nd b) : Nat) : Int) from by omega))) ?_
            rintro _ w113 ⟨rfl, v116, c117, u118, e119, ul120, Lb121, hk122, hu123, hm124, ht125, hl126, hd127, h114⟩
            have hH115 := Hp.mids (A := [_, _, _]) (R := [_]) h114
            simp only [List.cons_append, List.nil_append] at hH115
            have l3 : (stLe (stSz (stUp nd b a) a (szF nd a + szF nd b)) a (min (leF nd a) (leF nd b))).length = nd.length := by simp [stUp, stSz, stLe, stNx]
            have wl3 := wordsN_len (stLe (stSz (stUp nd b a) a (szF nd a + szF nd b)) a (min (leF nd a) (leF nd b)))
            have lt3 : Later (wordsN (stSz (stUp nd b a) a (szF nd a + szF nd b))) (ul99.map Prod.snd) (wordsN (stLe (stSz (stUp nd b a) a (szF nd a + szF nd b)) a (min (leF nd a) (leF nd b)))) (ul120.map Prod.snd) := by rw [hm124, ← put_le (nd := (stSz (stUp nd b a) a (szF nd a + szF nd b))) (by rw [l2]; exact ha)]; exact Later.set (by omega)
            rw [put_le (by rw [l2]; exact ha)] at hk122 hH115
            have la3 := la2.trans lt3
            have dr3 := drop_app dr2.1 ht125 dr2.2 hd127
            refine RL.nil ?_
            refine CW.seq ?_
            refine CW.region ?_
            refine RL.val rfl (run_move e9_68) ?_
            refine RL.val rfl (run_move e7_68) ?_
            refine RL.callP rfl hH115 (c_forest_nodes_cell _ _ _ _ _ _ _ _ (by omega) _ (hH115.blk (i := 0) rfl) (hH115.slU (i := 1) rfl hk122)) (run_call3 Try.call30 rfl rfl (show _ = I 2 from rfl)) ?_
            intro w128 hH129
            have c82 := rd_nx (nd := (stLe (stSz (stUp nd b a) a (szF nd a + szF nd b)) a (min (leF nd a) (leF nd b)))) (a := a) (v := nxF nd a) (by rw [l3]; exact ha) (nxF_stLe.trans (nxF_stSz.trans nxF_stUp)) (by omega)
            refine RL.val rfl (run_move e9_68) ?_
            refine RL.val rfl (run_move e8_68) ?_
            refine RL.callP rfl hH129 (c_forest_nodes_cell _ _ _ _ _ _ _ _ (by omega) _ (hH129.blk (i := 0) rfl) (hH129.slU (i := 1) rfl hk122)) (run_call3 Try.call30 rfl rfl (show _ = I 2 from rfl)) ?_
            intro w130 hH131
            have c85 := rd_nx (nd := (stLe (stSz (stUp nd b a) a (szF nd a + szF nd b)) a (min (leF nd a) (leF nd b)))) (a := b) (v := nxF nd b) (by rw [l3]; exact hb) (nxF_stLe.trans (nxF_stSz.trans nxF_stUp)) (by omega)
            refine RL.val rfl (run_assign (congrArg I c82)) ?_
            refine RL.val rfl (run_assign (congrArg I c85)) ?_
            refine RL.nil ?_
            refine CW.seq ?_
            refine CW.region ?_
            refine RL.val rfl (run_move e9_68) ?_
            refine RL.val rfl (run_move e7_68) ?_
            refine RL.val rfl (run_move (v := I _) rfl) ?_
            refine RL.callT rfl (c_forest_nodes_put _ _ _ _ _ _ _ _ _ _ _ _ _ _ (by omega) (by omega) (by omega) _ hk122 hu123 hH131) (run_call4 Try.call31 rfl rfl (show _ = I 2 from rfl) rfl) ?_
            rintro _ w134 ⟨rfl, v137, c138, u139, e140, ul141, Lb142, hk143, hu144, hm145, ht146, hl147, hd148, h135⟩
            have hH136 := Hp.mids (A := [_, _, _]) (R := [_]) h135
            simp only [List.cons_append, List.nil_append] at hH136
            have l4 : (stNx (stLe (stSz (stUp nd b a) a (szF nd a + szF nd b)) a (min (leF nd a) (leF nd b))) a (nxF nd b)).length = nd.length := by simp [stUp, stSz, stLe, stNx]
            have wl4 := wordsN_len (stNx (stLe (stSz (stUp nd b a) a (szF nd a + szF nd b)) a (min (leF nd a) (leF nd b))) a (nxF nd b))
            have lt4 : Later (wordsN (stLe (stSz (stUp nd b a) a (szF nd a + szF nd b)) a (min (leF nd a) (leF nd b)))) (ul120.map Prod.snd) (wordsN (stNx (stLe (stSz (stUp nd b a) a (szF nd a + szF nd b)) a (min (leF nd a) (leF nd b))) a (nxF nd b))) (ul141.map Prod.snd) := by rw [hm145, ← put_nx (nd := (stLe (stSz (stUp nd b a) a (szF nd a + szF nd b)) a (min (leF nd a) (leF nd b)))) (by rw [l3]; exact ha)]; exact Later.set (by omega)
            rw [put_nx (by rw [l3]; exact ha)] at hk143 hH136
            have la4 := la3.trans lt4
            have dr4 := drop_app dr3.1 ht146 dr3.2 hd148
            refine RL.nil ?_
            refine CW.seq ?_
            refine CW.region ?_
            refine RL.val rfl (run_move e9_68) ?_
            refine RL.val rfl (run_move e8_68) ?_
            refine RL.val rfl (run_move (v := I _) rfl) ?_
            refine RL.callT rfl (c_forest_nodes_put _ _ _ _ _ _ _ _ _ _ _ _ _ _ (by omega) (by omega) (by omega) _ hk143 hu144 hH136) (run_call4 Try.call31 rfl rfl (show _ = I 2 from rfl) rfl) ?_
            rintro _ w151 ⟨rfl, v154, c155, u156, e157, ul158, Lb159, hk160, hu161, hm162, ht163, hl164, hd165, h152⟩
            have hH153 := Hp.mids (A := [_, _, _]) (R := [_]) h152
            simp only [List.cons_append, List.nil_append] at hH153
            have l5 : (stNx (stNx (stLe (stSz (stUp nd b a) a (szF nd a + szF nd b)) a (min (leF nd a) (leF nd b))) a (nxF nd b)) b (nxF nd a)).length = nd.length := by simp [stUp, stSz, stLe, stNx]
            have wl5 := wordsN_len (stNx (stNx (stLe (stSz (stUp nd b a) a (szF nd a + szF nd b)) a (min (leF nd a) (leF nd b))) a (nxF nd b)) b (nxF nd a))
            have lt5 : Later (wordsN (stNx (stLe (stSz (stUp nd b a) a (szF nd a + szF nd b)) a (min (leF nd a) (leF nd b))) a (nxF nd b))) (ul141.map Prod.snd) (wordsN (stNx (stNx (stLe (stSz (stUp nd b a) a (szF nd a + szF nd b)) a (min (leF nd a) (leF nd b))) a (nxF nd b)) b (nxF nd a))) (ul158.map Prod.snd) := by rw [hm162, ← put_nx (nd := (stNx (stLe (stSz (stUp nd b a) a (szF nd a + szF nd b)) a (min (leF nd a) (leF nd b))) a (nxF nd b))) (by rw [l4]; exact hb)]; exact Later.set (by omega)
            rw [put_nx (by rw [l4]; exact hb)] at hk160 hH153
            have la5 := la4.trans lt5
            have dr5 := drop_app dr4.1 ht163 dr4.2 hd165
            refine RL.nil ?_
            refine CW.seq ?_
            refine CW.region ?_
            refine RL.val rfl (run_move e0_68) ?_
            refine RL.val rfl (run_nilCheck rfl) ?_
            refine RL.val rfl (run_fieldAddr Try.underlying65 rfl (off := 3) rfl Try.sizeOf3 (by decide) rfl) ?_
            refine RL.val rfl (run_ld Try.underlying3 rfl rfl (hH153.cell (i := 0) rfl (v := I _) rfl)) ?_
            refine RL.val rfl (run_sub rfl rfl (by omega)) ?_
            refine RL.val rfl (run_nilCheck rfl) ?_
            refine RL.val rfl (run_fieldAddr Try.underlying65 rfl (off := 3) rfl Try.sizeOf3 (by decide) rfl) ?_
            refine RL.set hH153 (i := 0) rfl (run_st rfl rfl (v := I _) rfl rfl rfl (hH153.blk (i := 0) rfl) (by simp)) ?_
            intro w166 hH167
            simp only [List.set_cons_zero, List.set_cons_succ] at hH167
            refine RL.nil ?_
            refine CW.seq ?_
            refine CW.region ?_
            refine RL.val rfl (run_assign (v := B true) rfl) ?_
            refine RL.nil ?_
            refine CW.ret ?_
            have hE := hH167.sub (List.Sublist.refl _)
            rw [union_is ha hb hab] at hE hk160 la5
            refine out1 Try.results10 (v := B true) rfl (.inr ⟨rfl, a, b, hP, v154, c155, u156, e157, t1, ul158, _, hk160, hu161, la5, dr5.1, (by omega), dr5.2, ?_⟩)
            rw [show (ts ++ [(ul.length : Int)]).length = ts.length + 1 by simp, show (ts ++ [(ul.length : Int)]).map I = ts.map I ++ [I ((ul.map Prod.fst).length : Int)] by simp]; simp only [List.append_assoc]; exact hE
section
variable {w0 w : World} {L R Z : List Ent} {F m : Nat} {cs : List (List Nat)}
end
section
variable {w0 w : World} {L R Z : List Ent} {F m : Nat} {cs : List (List Nat)}
theorem m_Count (hZ : FoZ FX F m cs Z) (hH : Hp w0 w L) (hs : ∀ x ∈ Z, x ∈ L) : Calls Try.prog 18 #[.pointer (some ⟨F, 0, none⟩)] w (Pure (I (leads (nowC cs) : Nat)) w) := by
  obtain ⟨vW, vU, vT, nd, cl, cs0, ts, rfl, hb, hW, hf, h1, h2, hT, h3⟩ := hZ.rd hH hs
  exact c_forest_Forest_Count F vW vU vT _ _ w hb hW
end
section
variable {w0 w : World} {L R Z : List Ent} {F m : Nat} {cs : List (List Nat)}
theorem m_Find (i : Int) (hm : m ≤ 100000) (hZ : FoZ FX F m cs Z) (hH : Hp w0 w L) (hs : ∀ x ∈ Z, x ∈ L) : Calls Try.prog 11 #[.pointer (some ⟨F, 0, none⟩), I i] w (Pure (I (findR (nowC cs) i)) w) := by
  obtain ⟨vW, vU, vT, nd, cl, cs0, ts, rfl, hb, hW, hf, h1, h2, hT, h3⟩ := hZ.rd hH hs
  exact c_forest_Forest_Find F vW vU vT _ nd cl i (by omega) hf w hb hW
end
section
variable {w0 w : World} {L R Z : List Ent} {F m : Nat} {cs : List (List Nat)}
theorem m_Class (i : Int) (hm : m ≤ 100000) (hZ : FoZ FX F m cs Z) (hH : Hp w0 w L) (hs : ∀ x ∈ Z, x ∈ L) : Calls Try.prog 23 #[.pointer (some ⟨F, 0, none⟩), I i] w (PureRow 3 1 (classI (nowC cs) i).length ((classI (nowC cs) i).map I) w) := by
  obtain ⟨vW, vU, vT, nd, cl, cs0, ts, rfl, hb, hW, hf, h1, h2, hT, h3⟩ := hZ.rd hH hs
  exact c_forest_Forest_Class F vW vU vT _ nd cl i (by omega) hf w hb hW
end
section
variable {w0 w : World} {L R Z : List Ent} {F m : Nat} {cs : List (List Nat)}
theorem m_Add (hm : m ≤ 10000) (hZ : FoZ FX F m cs Z) (hH : Hp w0 w (Z ++ R)) : Calls Try.prog 9 #[.pointer (some ⟨F, 0, none⟩)] w (Ret fun u w' => u = I (nowC cs).length ∧ ∃ Z', FoZ FX F (m + 1) (addC cs) Z' ∧ Hp w0 w' (Z' ++ R)) := by
  obtain ⟨vW, vU, vT, cW, cU, W, ul, tn, Lb, rfl, i⟩ := hZ
  obtain ⟨nd, cl, cs0, rfl, rfl, h2, h3, h4, h5, h6⟩ := i.now
  have l1 := i.lu; have l2 := i.lt
  have hH' : Hp w0 w (.blk F (.cells #[vW, vU, vT, I ((leads cl : Nat) : Int)] 65 (0, 0)) :: cE cW vW 28 ((wordsN nd).map U) :: cE cU vU 1 (ul.map Prod.fst) :: .row vT 3 1 (tmI tn).length ((tmI tn).map I) :: (Lb ++ R)) := by rw [tmI_len]; exact hH
  refine (c_forest_Forest_Add w0 F vW vU vT _ cW cU nd ul (tmI tn) (Lb ++ R) (by omega) (by omega) (by rw [tmI_len]; omega) (by omega) w i.hW i.hU hH').mono fun e w' hr => Ret.mono ?_ hr
  rintro u w' ⟨rfl, v1, c1, u1, c2, t1, ul1, Lb1, k1, k2, k3, k4, k5, hh⟩
  refine ⟨by rw [h3]; rfl, _, ⟨v1, u1, t1, c1, c2, wordsN (nd ++ [newN nd.length]), ul1, ul.length :: tn, Lb1 ++ Lb, rfl, k1, k2, ?_, ?_, ?_, ?_, ?_⟩, ?_⟩
  · have e1 := addU_is (W := wordsN nd) (us := ul.map Prod.snd) (a := BitVec.ofNat 64 nd.length) (b := BitVec.ofNat 64 1) (c := BitVec.ofNat 64 nd.length) (d := BitVec.ofNat 64 nd.length)
    have e2 : wordsN (nd ++ [newN nd.length]) = wordsN nd ++ [BitVec.ofNat 64 nd.length] ++ [BitVec.ofNat 64 1] ++ [BitVec.ofNat 64 nd.length] ++ [BitVec.ofNat 64 nd.length] := by rw [wordsN_snoc]; simp [ndW, newN]
    rw [← e2] at e1
    have h := Hs.more (cl' := cl ++ [nd.length]) i.hs rfl h2.add (.inl ⟨by simp, leads_add h2⟩) e1.1 e1.2.1 e1.2.2
    rw [List.length_map] at h
    rw [k3]
    show Hs _ _ _ ((cl ++ [cl.length]) :: cl :: cs0)
    rw [← h3]; exact h
  · have e2 : wordsN (nd ++ [newN nd.length]) = wordsN nd ++ [BitVec.ofNat 64 nd.length] ++ [BitVec.ofNat 64 1] ++ [BitVec.ofNat 64 nd.length] ++ [BitVec.ofNat 64 nd.length] := by rw [wordsN_snoc]; simp [ndW, newN]
    rw [k3, e2]; exact addU_ok i.ok
  · intro x hx
    rw [← List.take_append_drop ul.length ul1, k4] at hx
    rcases List.mem_append.1 hx with q | q
    · exact (i.un x q).mono fun e he => List.mem_append_right _ he
    · exact (k5 x q).mono fun e he => List.mem_append_left _ he
  · have := congrArg List.length k3; simp [addU] at this; omega
  · simp; omega
  · have e5 : (leads (nowC (addC (cl :: cs0))) : Nat) = leads cl + 1 := by rw [← leads_add h2, h3]; rfl
    rw [foL, e5, tmI_cons, List.cons_append, List.cons_append, List.cons_append, List.cons_append, List.append_assoc]
    rw [show (tmI tn ++ [(ul.length : Int)]).length = (ul.length :: tn).length by simp [tmI_len]] at hh
    exact hh
end
section
variable {w0 w : World} {L R Z : List Ent} {F m : Nat} {cs : List (List Nat)}
theorem m_Union (i j : Int) (hm : m ≤ 10000) (hZ : FoZ FX F m cs Z) (hH : Hp w0 w (Z ++ R)) : Calls Try.prog 10 #[.pointer (some ⟨F, 0, none⟩), I i, I j] w (Ret fun u w' => u = B (unionC cs i j).2 ∧ ∃ Z', FoZ FX F (m + 1) (unionC cs i j).1 Z' ∧ Hp w0 w' (Z' ++ R)) := by
  have hZ0 := hZ
  obtain ⟨vW, vU, vT, cW, cU, W, ul, tn, Lb, rfl, k⟩ := hZ
  obtain ⟨nd, cl, cs0, rfl, rfl, h2, h3, h4, h5, h6⟩ := k.now
  have l1 := k.lu; have l2 := k.lt
  have hH' : Hp w0 w (.blk F (.cells #[vW, vU, vT, I ((leads cl : Nat) : Int)] 65 (0, 0)) :: cE cW vW 28 ((wordsN nd).map U) :: cE cU vU 1 (ul.map Prod.fst) :: .row vT 3 1 (tmI tn).length ((tmI tn).map I) :: (Lb ++ R)) := by rw [tmI_len]; exact hH
  refine (c_forest_Forest_Union w0 F vW vU vT _ cW cU nd ul (tmI tn) (Lb ++ R) cl i j (by omega) (by omega) (by rw [tmI_len]; omega) (by omega) h2 w k.hW k.hU hH').mono fun e w' hr => Ret.mono ?_ hr
  rintro u w' (⟨rfl, no, hh⟩ | ⟨rfl, a, b, p, v1, c1, u1, c2, t1, ul1, Lb1, k1, k2, la, k4, k6, k5, hh⟩)
  · rw [union_no (cs := cl :: cs0) (by show ¬ unOk cl.length cl i j; rw [← h3]; exact no)]
    rw [tmI_len] at hh
    exact ⟨rfl, _, hZ0.more (by omega), hh⟩
  · rw [union_yes (cs := cl :: cs0) (by have := p.ok; show unOk cl.length cl i j; rw [← h3]; exact this)]
    obtain ⟨f1, f2⟩ := un_fo h2 p
    refine ⟨rfl, _, ⟨v1, u1, t1, c1, c2, wordsN (joinN nd a b), ul1, ul.length :: tn, Lb1 ++ Lb, rfl, k1, k2, ?_, la.ok k.ok, ?_, by omega, by simp; omega⟩, ?_⟩
    · have h := Hs.more (cl' := joinC cl (clF cl i.toNat) (clF cl j.toNat)) k.hs rfl f1 (.inr ⟨joinC_len, f2⟩) la.back.1 la.back.2 la.le
      rw [List.length_map] at h; exact h
    · intro x hx
      rw [← List.take_append_drop ul.length ul1, k4] at hx
      rcases List.mem_append.1 hx with q | q
      · exact (k.un x q).mono fun e he => List.mem_append_right _ he
      · exact (k5 x q).mono fun e he => List.mem_append_left _ he
    · have e5 : ((leads (nowC (joinC cl (clF cl i.toNat) (clF cl j.toNat) :: cl :: cs0)) : Nat) : Int) = (leads cl : Int) - 1 := by show ((leads (joinC cl (clF cl i.toNat) (clF cl j.toNat)) : Nat) : Int) = _; omega
      show Hp w0 w' (foL FX F (joinC cl (clF cl i.toNat) (clF cl j.toNat) :: cl :: cs0) v1 u1 t1 c1 c2 _ ul1 (ul.length :: tn) (Lb1 ++ Lb) ++ R)
      rw [foL, e5, tmI_cons, List.cons_append, List.cons_append, List.cons_append, List.cons_append, List.append_assoc]
      rw [show (tmI tn ++ [(ul.length : Int)]).length = (ul.length :: tn).length by simp [tmI_len]] at hh
      exact hh
end
theorem c_forest_New  (w : World) : Calls Try.prog 8 #[] w (Ret fun u w' => ∃ (F : Nat) (Z : List Ent), u = .pointer (some ⟨F, 0, none⟩) ∧ Hp w w' Z ∧ FoZ FX F 0 [[]] Z) := by
  refine enter Try.func8 rfl Try.ntmps8 rfl ?_
  have hH := Hp.start w
  refine CW.seq ?_
  refine CW.region ?_
  refine RL.val rfl (run_assign (v := .pointer none) rfl) ?_
  refine RL.nil ?_
  refine CW.seq ?_
  refine CW.region ?_
  refine RL.val rfl (run_bld (cells := #[.slice none 0 0, .slice none 0 0, .slice none 0 0, I 0]) (vs := []) rfl rfl) ?_
  refine RL.new rfl hH (f := fun b => (.pointer (some ⟨b, 0, none⟩))) (run_box (v := .agg _) rfl) ?_
  intro b3 w1 hH2
  refine RL.val rfl (run_assign (v := .pointer (some ⟨_, _, none⟩)) rfl) ?_
  refine RL.nil ?_
  refine CW.ret ?_
  have hN := ((hH2.nilRow 3 1).nilRow 1 1).nilRow 28 1
  exact out1 Try.results8 (v := .pointer (some ⟨b3, 0, none⟩)) rfl ⟨b3, _, rfl, hN.perm (List.perm_append_comm (l₁ := [_, _, _]) (l₂ := [_])), FoZ.new⟩
theorem c_clearancelaw21_alive  (w : World) : Calls Try.prog 7 #[] w (Pure (B true) w) := by
  refine enter Try.func7 rfl Try.ntmps7 rfl ?_
  have hH := Hp.start w
  refine CW.seq ?_
  refine CW.region ?_
  refine RL.val rfl (run_assign (v := B false) rfl) ?_
  refine RL.nil ?_
  refine CW.seq ?_
  refine CW.region ?_
  refine RL.callT rfl (c_forest_New _) (run_call0 Try.call8) ?_
  rintro _ w5 ⟨F3, Zf4, rfl, hz6, hF7⟩
  have hH8 : Hp _ w5 (Zf4) := Hp.unZ (A := []) (Hp.zin (L := []) (L' := []) ((Hp.nilT (L := []) hH).callZ hz6))
  refine RL.val rfl (run_assign (v := .pointer (some ⟨_, _, none⟩)) rfl) ?_
  refine RL.nil ?_
  refine CW.seq ?_
  refine CW.region ?_
  refine RL.val rfl (run_move (v := .pointer (some ⟨_, _, none⟩)) rfl) ?_
  refine RL.callT rfl (m_Add (by omega) hF7 (Hp.zfront (A := []) (Hp.nilZ (A := []) hH8))) (run_call1 Try.call9 rfl) ?_
  rintro _ w11 ⟨rfl, Z12, hF13, h14⟩
  have hH15 : Hp _ w11 (Z12) := (Hp.unZ (A := []) (Hp.zback (A := []) h14))
  refine RL.val rfl (run_move (v := .pointer (some ⟨_, _, none⟩)) rfl) ?_
  refine RL.callT rfl (m_Add (by omega) hF13 (Hp.zfront (A := []) (Hp.nilZ (A := []) hH15))) (run_call1 Try.call9 rfl) ?_
  rintro _ w18 ⟨rfl, Z19, hF20, h21⟩
  have hH22 : Hp _ w18 (Z19) := (Hp.unZ (A := []) (Hp.zback (A := []) h21))
  refine RL.val rfl (run_move (v := .pointer (some ⟨_, _, none⟩)) rfl) ?_
  refine RL.callT rfl (m_Add (by omega) hF20 (Hp.zfront (A := []) (Hp.nilZ (A := []) hH22))) (run_call1 Try.call9 rfl) ?_
  rintro _ w25 ⟨rfl, Z26, hF27, h28⟩
  have hH29 : Hp _ w25 (Z26) := (Hp.unZ (A := []) (Hp.zback (A := []) h28))
  refine RL.val rfl (run_assign (v := I _) rfl) ?_
  refine RL.val rfl (run_assign (v := I _) rfl) ?_
  refine RL.val rfl (run_assign (v := I _) rfl) ?_
  refine RL.nil ?_
  refine CW.seq ?_
  refine CW.region ?_
  refine RL.val rfl (run_move (v := I _) rfl) ?_
  refine RL.val rfl (run_eql rfl rfl) ?_
  refine RL.val rfl (run_move (v := B _) rfl) ?_
  refine RL.gT rfl (bT (by decide +kernel)) ?_
  refine RL.val rfl (run_move (v := I _) rfl) ?_
  refine RL.gT rfl (bT (by decide +kernel)) ?_
  refine RL.val rfl (run_eql rfl rfl) ?_
  refine RL.val rfl (run_pickT (bT (by decide +kernel)) (v := B _) rfl) ?_
  refine RL.val rfl (run_move (v := B _) rfl) ?_
  refine RL.gT rfl (bT (by decide +kernel)) ?_
  refine RL.val rfl (run_move (v := I _) rfl) ?_
  refine RL.gT rfl (bT (by decide +kernel)) ?_
  refine RL.val rfl (run_eql rfl rfl) ?_
  refine RL.val rfl (run_pickT (bT (by decide +kernel)) (v := B _) rfl) ?_
  refine RL.val rfl (run_move (v := B _) rfl) ?_
  refine RL.gT rfl (bT (by decide +kernel)) ?_
  refine RL.val rfl (run_move (v := .pointer (some ⟨_, _, none⟩)) rfl) ?_
  refine RL.gT rfl (bT (by decide +kernel)) ?_
  refine RL.callT rfl (m_Union _ _ (by omega) hF27 (Hp.zfront (A := []) (Hp.nilZ (A := []) hH29))) (run_call3 Try.call10 rfl (show _ = I 0 from rfl) (show _ = I 2 from rfl)) ?_
  rintro _ w35 ⟨rfl, Z36, hF37, h38⟩
  have hH39 : Hp _ w35 (Z36) := (Hp.unZ (A := []) (Hp.zback (A := []) h38))
  refine RL.val rfl (run_pickT (bT (by decide +kernel)) (v := B _) rfl) ?_
  refine RL.val rfl (run_move (v := B _) rfl) ?_
  refine RL.gT rfl (bR (c := true) (by decide +kernel)) ?_
  refine RL.val rfl (run_move (v := .pointer (some ⟨_, _, none⟩)) rfl) ?_
  refine RL.gT rfl (bR (c := true) (by decide +kernel)) ?_
  refine RL.callR rfl hH39 (m_Class _ (by omega) hF37 hH39 (fun x hx => hx)) (run_call2 Try.call23 rfl (show _ = I 2 from rfl)) ?_
  intro v43 w41 hH42
  refine RL.gT rfl (bR (c := true) (by decide +kernel)) ?_
  refine RL.new rfl hH42 (f := fun b => (.slice (some ⟨b, 0, none⟩) 2 2)) (run_mkL Try.underlying37 rfl rfl (sz := 1) (vs := [I 0, I 2]) rfl rfl (by decide) (by decide) rfl rfl) ?_
  intro b46 w44 hH45
  (try simp only [List.flatMap_cons, List.flatMap_nil, clI, clB, clS, clP, clL, clA, List.append_nil, List.cons_append, List.nil_append] at hH45)
  refine RL.gT rfl (bR (c := true) (by decide +kernel)) ?_
  refine RL.callP rfl hH45 (c_clearanceref01_Ints _ _ (classI [0, 1, 0] 2) [0, 2] _ (hH45.sl (i := 1) rfl) (hH45.slBlk (i := 0) (n := 2) (sz := 1) rfl rfl (by decide))) (run_call2 Try.call22 rfl rfl) ?_
  intro w47 hH48
  refine RL.val rfl (run_pickT (bR (c := true) (by decide +kernel)) (v := B _) rfl) ?_
  refine RL.val rfl (run_move (v := B _) rfl) ?_
  refine RL.gT rfl (bT (by decide +kernel)) ?_
  refine RL.val rfl (run_move (v := .pointer (some ⟨_, _, none⟩)) rfl) ?_
  refine RL.gT rfl (bT (by decide +kernel)) ?_
  refine RL.callP rfl hH48 (m_Count hF37 hH48 (fun x hx => (List.mem_cons_of_mem _ (List.mem_cons_of_mem _ hx)))) (run_call1 Try.call18 rfl) ?_
  intro w51 hH52
  refine RL.gT rfl (bT (by decide +kernel)) ?_
  refine RL.val rfl (run_eql rfl rfl) ?_
  refine RL.val rfl (run_pickT (bT (by decide +kernel)) (v := B _) rfl) ?_
  refine RL.val rfl (run_move (v := B _) rfl) ?_
  refine RL.gT rfl (bT (by decide +kernel)) ?_
  refine RL.val rfl (run_move (v := .pointer (some ⟨_, _, none⟩)) rfl) ?_
  refine RL.gT rfl (bT (by decide +kernel)) ?_
  refine RL.callT rfl (m_Union _ _ (by omega) hF37 (Hp.zfront (A := [_, _]) (Hp.nilZ (A := [_, _]) hH52))) (run_call3 Try.call10 rfl (show _ = I 2 from rfl) (show _ = I 0 from rfl)) ?_
  rintro _ w56 ⟨rfl, Z57, hF58, h59⟩
  have hH60 : Hp _ w56 (_ :: _ :: Z57) := (Hp.unZ (A := [_, _]) (Hp.zback (A := [_, _]) h59))
  refine RL.gT rfl (bT (by decide +kernel)) ?_
  refine RL.val rfl (run_not (bR (c := false) (by decide +kernel))) ?_
  refine RL.val rfl (run_pickT (bT (by decide +kernel)) (v := B _) rfl) ?_
  refine RL.val rfl (run_assign (v := B _) rfl) ?_
  refine RL.nil ?_
  refine CW.ret ?_
  refine outP1 Try.results7 (congrArg B ?_) hH60.below
  rfl
end Go.Proofs.Ytphknfjaellkjaa.W
