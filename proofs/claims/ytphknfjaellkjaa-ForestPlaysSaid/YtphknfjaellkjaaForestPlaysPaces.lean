/-
  The walks of the functions that the laws of this seat reach, part 2: each returns what its plain counterpart tells, and turns nothing that was there.
-/
import Derived.Test.YtphknfjaellkjaaProg
import Derived.Test.YtphknfjaellkjaaEnv
import Derived.Test.YtphknfjaellkjaaPlain
import Derived.Test.YtphknfjaellkjaaBase
import Derived.WalkKit
import Derived.Ground.NamesProg
import Derived.Shelf.Slices.In.SortNone
import Derived.Sort.EveryDepth
import Derived.Sort.OwnSortedInts
import Derived.Test.YtphknfjaellkjaaOrd
import Derived.Test.YtphknfjaellkjaaRel
import Derived.Test.YtphknfjaellkjaaClo
import Derived.Test.YtphknfjaellkjaaCov
import Derived.Test.YtphknfjaellkjaaArr
import Derived.Test.YtphknfjaellkjaaHas
import Derived.Test.YtphknfjaellkjaaStr
import Derived.Test.YtphknfjaellkjaaVu
import Derived.Test.YtphknfjaellkjaaGrd
import Derived.Test.YtphknfjaellkjaaShp
import Derived.Test.YtphknfjaellkjaaShq
import Derived.Test.YtphknfjaellkjaaCut
import Derived.Test.YtphknfjaellkjaaRec
import Derived.Test.YtphknfjaellkjaaScp
import Derived.Test.YtphknfjaellkjaaByt
import Derived.Test.YtphknfjaellkjaaNod
import Derived.Test.YtphknfjaellkjaaSpl
import Derived.Test.YtphknfjaellkjaaSpt
import Derived.Test.YtphknfjaellkjaaSpn
import Derived.Test.YtphknfjaellkjaaSpx
import Derived.Test.YtphknfjaellkjaaSpy
import Derived.Test.YtphknfjaellkjaaAsn
import Derived.Test.YtphknfjaellkjaaAsp
import Derived.Test.YtphknfjaellkjaaMk
import Derived.Test.YtphknfjaellkjaaAsr
import Derived.Test.YtphknfjaellkjaaAst
import Derived.Test.YtphknfjaellkjaaGap
import Derived.Test.YtphknfjaellkjaaFst
import Derived.Test.YtphknfjaellkjaaFsu
import Derived.Test.YtphknfjaellkjaaFsv
import Derived.Test.YtphknfjaellkjaaFsx
import Derived.Test.YtphknfjaellkjaaCel
import Derived.Test.YtphknfjaellkjaaFsw
import Derived.Test.YtphknfjaellkjaaFor
import Derived.Test.YtphknfjaellkjaaFov
import Derived.Test.YtphknfjaellkjaaRch
import Derived.Test.YtphknfjaellkjaaForestPlaysPacesA
namespace Go.Proofs.Ytphknfjaellkjaa.W
open Go Go.RowKit Go.Proofs.Ytphknfjaellkjaa.E Go.Proofs.Ytphknfjaellkjaa.M
set_option linter.unusedVariables false
set_option linter.unusedSimpArgs false
set_option maxRecDepth 100000
theorem c_clearanceref21_Union (K : Vu) (x : RFo) (i j : Int) (hn : x.rs.length ≤ 100000) (hb : (nowR x).l.length ≤ 1000000) (w : World) (hK : Le K (Kw w)) (hx : FoV K x) : Calls Try.prog 34 #[.agg #[x.v], I i, I j] w (PureF K (fun K' u => ∃ y : RFo, u = .tuple #[.agg #[y.v], B (unionC x.cs i j).2] ∧ y.cs = (unionC x.cs i j).1 ∧ FoV K' y) w) := by
  have hne := hx.ne
  have hsm := hx.small
  have hnc := now_cs hx.ne
  have hrl := rwI_len (nowR x).l
  have fa : findR (nowR x).l i = findR (nowC x.cs) i := by rw [hnc]
  have fb : findR (nowR x).l j = findR (nowC x.cs) j := by rw [hnc]
  refine enter Try.func34 rfl Try.ntmps34 rfl ?_
  have hH := Hp.start w
  refine CW.seq ?_
  refine CW.region ?_
  refine RL.new rfl hH (f := fun b => (.pointer (some ⟨b, 0, none⟩))) (run_box (v := .agg _) rfl) ?_
  intro b3 w1 hH2
  refine RL.new rfl hH2 (f := fun b => (.pointer (some ⟨b, 0, none⟩))) (run_alloc Try.zeroValue43) ?_
  intro b6 w4 hH5
  refine RL.val rfl (run_assign (v := B false) rfl) ?_
  refine RL.nil ?_
  refine CW.seq ?_
  refine CW.regionD (by kernel_rfl) hH5 ?_
  intro w7 hH8
  refine AN.take 0 rfl rfl (by kernel_rfl) (by kernel_rfl) (by kernel_rfl) (hH8.sub (List.Sublist.refl _)) (fun w hS => run_ldA (cs := [_]) Try.underlying43 rfl rfl rfl (rangeAt_cells (hS.blk (i := 1) rfl))) ?_
  refine AN.take 1 rfl rfl (by kernel_rfl) (by kernel_rfl) (by kernel_rfl) (hH8.sub (List.Sublist.refl _)) (fun w hS => run_move (v := I _) rfl) ?_
  refine AN.take 3 rfl rfl (by kernel_rfl) (by kernel_rfl) (by kernel_rfl) (hH8.sub (List.Sublist.refl _)) (fun w hS => run_ldA (cs := [_]) Try.underlying43 rfl rfl rfl (rangeAt_cells (hS.blk (i := 1) rfl))) ?_
  refine AN.take 4 rfl rfl (by kernel_rfl) (by kernel_rfl) (by kernel_rfl) (hH8.sub (List.Sublist.refl _)) (fun w hS => run_move (v := I _) rfl) ?_
  refine AN.one 2 (by kernel_rfl) ?_
  refine AO.callP rfl gnone rfl hH8 (List.Sublist.refl _) (c_clearanceref21_Find _ _ _ (hx.mono (Le.trans hK hH8.kw))) (run_call2 Try.call21 rfl rfl) ?_
  intro w9 hH10
  refine AN.one 5 (by kernel_rfl) ?_
  refine AO.callP rfl gnone rfl hH10 (List.Sublist.refl _) (c_clearanceref21_Find _ _ _ (hx.mono (Le.trans hK hH10.kw))) (run_call2 Try.call21 rfl rfl) ?_
  intro w11 hH12
  refine AN.take 6 rfl rfl (by kernel_rfl) (by kernel_rfl) (by kernel_rfl) (hH12.sub (List.Sublist.refl _)) (fun w hS => run_assign (v := I _) rfl) ?_
  refine AN.take 7 rfl rfl (by kernel_rfl) (by kernel_rfl) (by kernel_rfl) (hH12.sub (List.Sublist.refl _)) (fun w hS => run_assign (v := I _) rfl) ?_
  refine AN.done (by kernel_rfl) ?_
  refine CW.seq ?_
  refine CW.seq ?_
  refine CW.region ?_
  refine RL.val rfl (run_move (v := I _) rfl) ?_
  refine RL.val rfl (run_lss rfl rfl) ?_
  refine RL.val rfl (run_move (v := B _) rfl) ?_
  refine RL.splitP (dj := 21) rfl (fun h14 => ?_) (fun h14 => ?_)
  · refine RL.gF rfl rfl (bT h14) rfl ?_
    refine RL.gF rfl rfl (bT h14) rfl ?_
    refine RL.val rfl (run_pickT (bT h14) (v := B true) rfl) ?_
    refine RL.val rfl (run_move (v := B _) rfl) ?_
    refine RL.gF rfl rfl rfl rfl ?_
    refine RL.gF rfl rfl rfl rfl ?_
    refine RL.gF rfl rfl rfl rfl ?_
    refine RL.val rfl (run_pickT rfl (v := B true) rfl) ?_
    refine RL.nil ?_
    refine CW.condT rfl ?_
    refine CW.seq ?_
    refine CW.region ?_
    refine RL.val rfl (run_ldA (cs := [_]) Try.underlying43 rfl rfl rfl (rangeAt_cells (hH12.blk (i := 1) rfl))) ?_
    refine RL.set hH12 (i := 0) rfl (run_stW rfl rfl rfl hx.one (hH12.blk (i := 0) rfl) rfl) ?_
    intro w15 hH16
    simp only [List.set_cons_zero, List.set_cons_succ] at hH16
    refine RL.val rfl (run_assign (v := B false) rfl) ?_
    refine RL.nil ?_
    refine CW.ret ?_
    refine outCT Try.results34 rfl rfl hH16 (i := 0) rfl Try.underlying43 rfl rfl ⟨[], (hH16.sub (.cons _ (.cons _ (List.Sublist.refl _)))), x, (by rw [ru_no hne (by omega)]; rfl), ?_, ?_⟩
    · rw [ru_no hne (by omega)]
    · exact hx.mono (Le.z _ _)
  · refine RL.gT rfl (bF h14) ?_
    refine RL.val rfl (run_move (v := I _) rfl) ?_
    refine RL.gT rfl (bF h14) ?_
    refine RL.val rfl (run_lss rfl rfl) ?_
    refine RL.val rfl (run_pickF (bF h14) (v := B _) rfl) ?_
    refine RL.val rfl (run_move (v := B _) rfl) ?_
    refine RL.splitP (dj := 25) rfl (fun h18 => ?_) (fun h18 => ?_)
    · refine RL.gF rfl rfl (bT h18) rfl ?_
      refine RL.gF rfl rfl (bT h18) rfl ?_
      refine RL.gF rfl rfl (bT h18) rfl ?_
      refine RL.val rfl (run_pickT (bT h18) (v := B true) rfl) ?_
      refine RL.nil ?_
      refine CW.condT rfl ?_
      refine CW.seq ?_
      refine CW.region ?_
      refine RL.val rfl (run_ldA (cs := [_]) Try.underlying43 rfl rfl rfl (rangeAt_cells (hH12.blk (i := 1) rfl))) ?_
      refine RL.set hH12 (i := 0) rfl (run_stW rfl rfl rfl hx.one (hH12.blk (i := 0) rfl) rfl) ?_
      intro w19 hH20
      simp only [List.set_cons_zero, List.set_cons_succ] at hH20
      refine RL.val rfl (run_assign (v := B false) rfl) ?_
      refine RL.nil ?_
      refine CW.ret ?_
      refine outCT Try.results34 rfl rfl hH20 (i := 0) rfl Try.underlying43 rfl rfl ⟨[], (hH20.sub (.cons _ (.cons _ (List.Sublist.refl _)))), x, (by rw [ru_no hne (by omega)]; rfl), ?_, ?_⟩
      · rw [ru_no hne (by omega)]
      · exact hx.mono (Le.z _ _)
    · refine RL.gT rfl (bF h18) ?_
      refine RL.val rfl (run_move (v := I _) rfl) ?_
      refine RL.gT rfl (bF h18) ?_
      refine RL.val rfl (run_move (v := I _) rfl) ?_
      refine RL.gT rfl (bF h18) ?_
      refine RL.val rfl (run_eql rfl rfl) ?_
      refine RL.val rfl (run_pickF (bF h18) (v := B _) rfl) ?_
      refine RL.nil ?_
      refine CW.condP rfl (fun h22 => ?_) (fun h22 => ?_)
      · refine CW.seq ?_
        refine CW.region ?_
        refine RL.val rfl (run_ldA (cs := [_]) Try.underlying43 rfl rfl rfl (rangeAt_cells (hH12.blk (i := 1) rfl))) ?_
        refine RL.set hH12 (i := 0) rfl (run_stW rfl rfl rfl hx.one (hH12.blk (i := 0) rfl) rfl) ?_
        intro w23 hH24
        simp only [List.set_cons_zero, List.set_cons_succ] at hH24
        refine RL.val rfl (run_assign (v := B false) rfl) ?_
        refine RL.nil ?_
        refine CW.ret ?_
        refine outCT Try.results34 rfl rfl hH24 (i := 0) rfl Try.underlying43 rfl rfl ⟨[], (hH24.sub (.cons _ (.cons _ (List.Sublist.refl _)))), x, (by rw [ru_no hne (by omega)]; rfl), ?_, ?_⟩
        · rw [ru_no hne (by omega)]
        · exact hx.mono (Le.z _ _)
      · refine CW.skip ?_
        refine CW.seq ?_
        refine CW.region ?_
        refine RL.val rfl (run_assign (v := .slice none 0 0) rfl) ?_
        have hH25 := hH12.nilRow 3 1
        refine RL.nil ?_
        refine CW.seq ?_
        refine CW.seq ?_
        refine CW.region ?_
        refine RL.val rfl (run_assign (v := I 0) rfl) ?_
        refine RL.nil ?_
        refine CW.block ?_
        refine CW.loop (G := (Int) × (List Nat) × (Value)) (fun (⟨k, o, v10⟩ : (Int) × (List Nat) × (Value)) s' w' => (Fr [10, 11, 12, 31, 32, 33, 34, 35, 36, 37, 38, 39, 40, 41, 42, 43, 44, 45, 46, 47, 48, 49, 50, 51, 52, 53, 54, 55, 56, 57] _ s') ∧ (Hp w w' (.row v10 3 1 ((rwI o).length) ((rwI o).map I) :: _)) ∧ (s' 10 = v10) ∧ (s' 11 = I k) ∧ (0 ≤ k) ∧ (k ≤ (rwI (nowR x).l).length) ∧ (o = ((nowR x).l.take k.toNat).map (mixC (findR (nowR x).l i).toNat (findR (nowR x).l j).toNat)) ∧ (o.length ≤ k.toNat)) (fun (⟨k, o, v10⟩ : (Int) × (List Nat) × (Value)) => ((rwI (nowR x).l).length - k).toNat) ((0, [], (.slice none 0 0 : Value))) ⟨Fr.refl _ _, hH25, rfl, rfl, (by omega), (by omega), rfl, (by simp)⟩ ?_
        rintro ⟨k, o, v10⟩ sg26 w26 ⟨fr26, hH26, e10_26, e11_26, h0, hk, ho, hl⟩
        have e3_26 : sg26 3 = .pointer (some ⟨_, _, none⟩) := (fr26 3 rfl).trans rfl
        have e6_26 : sg26 6 = .pointer (some ⟨_, _, none⟩) := (fr26 6 rfl).trans rfl
        have e7_26 : sg26 7 = B _ := (fr26 7 rfl).trans rfl
        have e8_26 : sg26 8 = I _ := (fr26 8 rfl).trans rfl
        have e9_26 : sg26 9 = I _ := (fr26 9 rfl).trans rfl
        have hol := rwI_len o
        have hcv : (rwI (nowR x).l).getD k.toNat 0 = (((nowR x).l.getD k.toNat 0 : Nat) : Int) := rwI_at
        refine CW.seq ?_
        refine CW.seq ?_
        refine CW.region ?_
        refine RL.val rfl (run_move e11_26) ?_
        refine RL.val rfl (run_ldA (cs := [_]) Try.underlying43 rfl rfl e3_26 (rangeAt_cells (hH26.blk (i := 2) rfl))) ?_
        refine RL.callP rfl hH26 (c_clearanceref21_Now _ _ (hx.mono (Le.trans hK hH26.kw))) (run_call1 Try.call17 rfl) ?_
        intro w27 hH28
        refine RL.val rfl (run_lenSl ((hx.now).mono (Le.trans hK hH28.kw)).sl rfl Try.underlying37 rfl) ?_
        refine RL.val rfl (run_lss rfl rfl) ?_
        refine RL.nil ?_
        refine CW.condP rfl (fun h30 => ?_) (fun h30 => ?_)
        · refine CW.skip ?_
          refine CW.seq ?_
          refine CW.block ?_
          refine CW.seq ?_
          refine CW.region ?_
          refine RL.val rfl (run_ldA (cs := [_]) Try.underlying43 rfl rfl e3_26 (rangeAt_cells (hH28.blk (i := 2) rfl))) ?_
          refine RL.callP rfl hH28 (c_clearanceref21_Now _ _ (hx.mono (Le.trans hK hH28.kw))) (run_call1 Try.call17 rfl) ?_
          intro w31 hH32
          refine RL.val rfl (run_move e11_26) ?_
          refine RL.val rfl (run_indexAddrS ((hx.now).mono (Le.trans hK hH32.kw)).sl Try.underlying37 Try.sizeOf3 rfl rfl (by omega)) ?_
          refine RL.val rfl (run_ld Try.underlying3 rfl rfl (((hx.now).mono (Le.trans hK hH32.kw)).sl.cell _ _ (map_at (by omega)))) ?_
          refine RL.val rfl (run_assign (v := I _) rfl) ?_
          refine RL.nil ?_
          refine CW.seq ?_
          refine CW.seq ?_
          refine CW.region ?_
          refine RL.val rfl (run_move (v := I _) rfl) ?_
          refine RL.val rfl (run_move e8_26) ?_
          refine RL.val rfl (run_eql rfl rfl) ?_
          refine RL.val rfl (run_move (v := B _) rfl) ?_
          refine RL.splitP (dj := 46) rfl (fun h34 => ?_) (fun h34 => ?_)
          · refine RL.gF rfl rfl (bT h34) rfl ?_
            refine RL.gF rfl rfl (bT h34) rfl ?_
            refine RL.gF rfl rfl (bT h34) rfl ?_
            refine RL.val rfl (run_pickT (bT h34) (v := B true) rfl) ?_
            refine RL.nil ?_
            refine CW.condT rfl ?_
            refine CW.region ?_
            refine RL.val rfl (run_move e8_26) ?_
            refine RL.val rfl (run_move e9_26) ?_
            refine RL.val rfl (run_minI rfl rfl) ?_
            refine RL.val rfl (run_assign (v := I _) rfl) ?_
            refine RL.nil ?_
            refine CW.region ?_
            refine RL.val rfl (run_move e10_26) ?_
            refine RL.val rfl (run_move (v := I _) rfl) ?_
            refine RL.new rfl hH32 (f := fun b => (.slice (some ⟨b, 0, none⟩) 1 1)) (run_mkL Try.underlying37 rfl rfl (sz := 1) (vs := [I _]) rfl rfl (by decide) (by decide) rfl rfl) ?_
            intro b37 w35 hH36
            (try simp only [List.flatMap_cons, List.flatMap_nil, clI, clB, clS, clP, clL, clA, List.append_nil, List.cons_append, List.nil_append] at hH36)
            refine RL.app rfl hH36 (i := 1) rfl (hH36.slBlk (i := 0) (n := 1) (sz := 1) rfl rfl (by decide)) rfl rfl Try.underlying37 rfl rfl (size := 1) (bytes := 8) rfl rfl rfl (by decide) (by simp [Value.oneCell']) (by omega) (by simp only [maxLen]; omega) ?_
            intro v38 w39 hH40
            simp only [List.set_cons_zero, List.set_cons_succ] at hH40
            refine RL.val rfl (run_assign (by conv => lhs; whnf)) ?_
            refine RL.nil ?_
            refine CW.region ?_
            refine RL.val rfl (run_move e11_26) ?_
            refine RL.val rfl (run_add rfl rfl (by omega)) ?_
            refine RL.val rfl (run_assign (v := I _) rfl) ?_
            refine RL.nil ?_
            refine ⟨(k + 1, ((nowR x).l.take (k + 1).toNat).map (mixC (findR (nowR x).l i).toNat (findR (nowR x).l j).toNat), v38), ?_, ((((((((((((((((((((((((((((((fr26.u rfl).u rfl).u rfl).u rfl).u rfl).u rfl).u rfl).u rfl).u rfl).u rfl).u rfl).u rfl).u rfl).u rfl).u rfl).u rfl).u rfl).u rfl).u rfl).u rfl).u rfl).u rfl).u rfl).u rfl).u rfl).u rfl).u rfl).u rfl).u rfl).u rfl).u rfl, (Hp.conv (hH40.sub (.cons _ (List.Sublist.refl _))) (by (rw [join_to h0 ‹k < _›, ← ho, ← rwI_snoc]; simp only [rwI_len, List.length_append, List.length_singleton]; ((rw [mix_in (by omega), ru_min (by omega), fa, fb]; done))))), rfl, (congrArg I (by rfl)), ?_, ?_, ?_, ?_⟩
            · ((try dsimp only); omega)
            · omega
            · omega
            · rfl
            · rw [List.length_map, List.length_take]; omega
          · refine RL.gT rfl (bF h34) ?_
            refine RL.val rfl (run_move (v := I _) rfl) ?_
            refine RL.gT rfl (bF h34) ?_
            refine RL.val rfl (run_move e9_26) ?_
            refine RL.gT rfl (bF h34) ?_
            refine RL.val rfl (run_eql rfl rfl) ?_
            refine RL.val rfl (run_pickF (bF h34) (v := B _) rfl) ?_
            refine RL.nil ?_
            refine CW.condP rfl (fun h42 => ?_) (fun h42 => ?_)
            · refine CW.region ?_
              refine RL.val rfl (run_move e8_26) ?_
              refine RL.val rfl (run_move e9_26) ?_
              refine RL.val rfl (run_minI rfl rfl) ?_
              refine RL.val rfl (run_assign (v := I _) rfl) ?_
              refine RL.nil ?_
              refine CW.region ?_
              refine RL.val rfl (run_move e10_26) ?_
              refine RL.val rfl (run_move (v := I _) rfl) ?_
              refine RL.new rfl hH32 (f := fun b => (.slice (some ⟨b, 0, none⟩) 1 1)) (run_mkL Try.underlying37 rfl rfl (sz := 1) (vs := [I _]) rfl rfl (by decide) (by decide) rfl rfl) ?_
              intro b45 w43 hH44
              (try simp only [List.flatMap_cons, List.flatMap_nil, clI, clB, clS, clP, clL, clA, List.append_nil, List.cons_append, List.nil_append] at hH44)
              refine RL.app rfl hH44 (i := 1) rfl (hH44.slBlk (i := 0) (n := 1) (sz := 1) rfl rfl (by decide)) rfl rfl Try.underlying37 rfl rfl (size := 1) (bytes := 8) rfl rfl rfl (by decide) (by simp [Value.oneCell']) (by omega) (by simp only [maxLen]; omega) ?_
              intro v46 w47 hH48
              simp only [List.set_cons_zero, List.set_cons_succ] at hH48
              refine RL.val rfl (run_assign (by conv => lhs; whnf)) ?_
              refine RL.nil ?_
              refine CW.region ?_
              refine RL.val rfl (run_move e11_26) ?_
              refine RL.val rfl (run_add rfl rfl (by omega)) ?_
              refine RL.val rfl (run_assign (v := I _) rfl) ?_
              refine RL.nil ?_
              refine ⟨(k + 1, ((nowR x).l.take (k + 1).toNat).map (mixC (findR (nowR x).l i).toNat (findR (nowR x).l j).toNat), v46), ?_, ((((((((((((((((((((((((((((((fr26.u rfl).u rfl).u rfl).u rfl).u rfl).u rfl).u rfl).u rfl).u rfl).u rfl).u rfl).u rfl).u rfl).u rfl).u rfl).u rfl).u rfl).u rfl).u rfl).u rfl).u rfl).u rfl).u rfl).u rfl).u rfl).u rfl).u rfl).u rfl).u rfl).u rfl).u rfl, (Hp.conv (hH48.sub (.cons _ (List.Sublist.refl _))) (by (rw [join_to h0 ‹k < _›, ← ho, ← rwI_snoc]; simp only [rwI_len, List.length_append, List.length_singleton]; ((rw [mix_in (by omega), ru_min (by omega), fa, fb]; done))))), rfl, (congrArg I (by rfl)), ?_, ?_, ?_, ?_⟩
              · ((try dsimp only); omega)
              · omega
              · omega
              · rfl
              · rw [List.length_map, List.length_take]; omega
            · refine CW.skip ?_
              refine CW.region ?_
              refine RL.val rfl (run_move e10_26) ?_
              refine RL.val rfl (run_move (v := I _) rfl) ?_
              refine RL.new rfl hH32 (f := fun b => (.slice (some ⟨b, 0, none⟩) 1 1)) (run_mkL Try.underlying37 rfl rfl (sz := 1) (vs := [I _]) rfl rfl (by decide) (by decide) rfl rfl) ?_
              intro b51 w49 hH50
              (try simp only [List.flatMap_cons, List.flatMap_nil, clI, clB, clS, clP, clL, clA, List.append_nil, List.cons_append, List.nil_append] at hH50)
              refine RL.app rfl hH50 (i := 1) rfl (hH50.slBlk (i := 0) (n := 1) (sz := 1) rfl rfl (by decide)) rfl rfl Try.underlying37 rfl rfl (size := 1) (bytes := 8) rfl rfl rfl (by decide) (by simp [Value.oneCell']) (by omega) (by simp only [maxLen]; omega) ?_
              intro v52 w53 hH54
              simp only [List.set_cons_zero, List.set_cons_succ] at hH54
              refine RL.val rfl (run_assign (by conv => lhs; whnf)) ?_
              refine RL.nil ?_
              refine CW.region ?_
              refine RL.val rfl (run_move e11_26) ?_
              refine RL.val rfl (run_add rfl rfl (by omega)) ?_
              refine RL.val rfl (run_assign (v := I _) rfl) ?_
              refine RL.nil ?_
              refine ⟨(k + 1, ((nowR x).l.take (k + 1).toNat).map (mixC (findR (nowR x).l i).toNat (findR (nowR x).l j).toNat), v52), ?_, ((((((((((((((((((((((((((fr26.u rfl).u rfl).u rfl).u rfl).u rfl).u rfl).u rfl).u rfl).u rfl).u rfl).u rfl).u rfl).u rfl).u rfl).u rfl).u rfl).u rfl).u rfl).u rfl).u rfl).u rfl).u rfl).u rfl).u rfl).u rfl).u rfl).u rfl, (Hp.conv (hH54.sub (.cons _ (List.Sublist.refl _))) (by (rw [join_to h0 ‹k < _›, ← ho, ← rwI_snoc]; simp only [rwI_len, List.length_append, List.length_singleton]; ((rw [mix_out (by omega), ← hcv]; done))))), rfl, (congrArg I (by rfl)), ?_, ?_, ?_, ?_⟩
              · ((try dsimp only); omega)
              · omega
              · omega
              · rfl
              · rw [List.length_map, List.length_take]; omega
        · refine CW.exit (id := 0) rfl ?_
          refine CW.seq ?_
          refine CW.region ?_
          obtain ⟨Z55, hz56, hv57, -⟩ := hH28.frz (K)
          have hH58 : Hp _ w27 (_ :: _ :: Z55) := hz56.zin0 (L := [_, _])
          have hl59 : IV (Kz K Z55) _ ((nowR x).l.map (mixC (findR (nowR x).l i).toNat (findR (nowR x).l j).toNat)) := IV.of hv57 (by rw [rwI_len, ho, List.length_map, List.length_map, List.take_of_length_le (by omega)]) (by rw [ho, List.take_of_length_le (by omega)])
          refine RL.val rfl (run_ldA (cs := [_]) Try.underlying43 rfl rfl e3_26 (rangeAt_cells (hH58.blk (i := 1) rfl))) ?_
          refine RL.val rfl (run_move e10_26) ?_
          refine RL.callF rfl hH58 (c_clearanceref21_then (Kz K Z55) _ _ ((nowR x).l.map (mixC (findR (nowR x).l i).toNat (findR (nowR x).l j).toNat)) (by assumption) _ (hH58.kz hK (fun x hx => (List.mem_cons_of_mem _ (List.mem_cons_of_mem _ hx)))) (hx.mono (Le.z _ _)) hl59) (run_call2 Try.call43 rfl rfl) ?_
          intro v62 w63 Z65 hH64 hp66
          have hH67 : Hp _ w63 (_ :: _ :: (Z65 ++ Z55)) := hH64.zin (L := [_, _]) (L' := Z55)
          obtain ⟨n68, rfl, nd69, nv70⟩ := hp66
          refine RL.set hH67 (i := 0) rfl (run_stW rfl e6_26 rfl (nv70.mono Le.kk).one (hH67.blk (i := 0) rfl) rfl) ?_
          intro w71 hH72
          simp only [List.set_cons_zero, List.set_cons_succ] at hH72
          refine RL.val rfl (run_assign (v := B true) rfl) ?_
          refine RL.nil ?_
          refine CW.ret ?_
          refine outCT Try.results34 e6_26 rfl hH72 (i := 0) rfl Try.underlying43 rfl rfl ⟨(Z65 ++ Z55), (hH72.sub (.cons _ (.cons _ (List.Sublist.refl _)))), n68, (by rw [ru_yes hne (by omega)]; rfl), ?_, ?_⟩
          · rw [ru_yes hne (by omega), nd69]
          · exact (nv70.mono Le.kk)
theorem c_clearanceref21_Undo (K : Vu) (x : RFo) (m : Int) (hn : x.rs.length ≤ 100000) (w : World) (hK : Le K (Kw w)) (hx : FoV K x) : Calls Try.prog 35 #[.agg #[x.v], I m] w (PureF K (fun K' u => ∃ y : RFo, u = .tuple #[.agg #[y.v], B (undoC x.cs m).2] ∧ y.cs = (undoC x.cs m).1 ∧ FoV K' y) w) := by
  have hne := hx.ne
  have hsm := hx.small
  have hnc := now_cs hx.ne
  refine enter Try.func35 rfl Try.ntmps35 rfl ?_
  have hH := Hp.start w
  refine CW.seq ?_
  refine CW.region ?_
  refine RL.new rfl hH (f := fun b => (.pointer (some ⟨b, 0, none⟩))) (run_box (v := .agg _) rfl) ?_
  intro b3 w1 hH2
  refine RL.new rfl hH2 (f := fun b => (.pointer (some ⟨b, 0, none⟩))) (run_alloc Try.zeroValue43) ?_
  intro b6 w4 hH5
  refine RL.val rfl (run_assign (v := B false) rfl) ?_
  refine RL.nil ?_
  refine CW.seq ?_
  refine CW.seq ?_
  refine CW.region ?_
  refine RL.val rfl (run_move (v := I _) rfl) ?_
  refine RL.val rfl (run_lss rfl rfl) ?_
  refine RL.nil ?_
  refine CW.condP rfl (fun h8 => ?_) (fun h8 => ?_)
  · refine CW.region ?_
    refine RL.val rfl (run_assign (v := I 0) rfl) ?_
    refine RL.nil ?_
    refine CW.seq ?_
    refine CW.seq ?_
    refine CW.region ?_
    refine RL.val rfl (run_move (v := I _) rfl) ?_
    refine RL.val rfl (run_fieldAddr Try.underlying43 rfl (off := 0) rfl Try.sizeOf41 (by decide) rfl) ?_
    refine RL.val rfl (run_ld Try.underlying41 rfl rfl (hH5.cell (i := 1) rfl rfl)) ?_
    refine RL.val rfl (run_lenSl ((hx.sl0).mono (Le.trans hK hH5.kw)).sl rfl Try.underlying41 rfl) ?_
    refine RL.val rfl (run_geq rfl rfl) ?_
    refine RL.nil ?_
    refine CW.condP rfl (fun h10 => ?_) (fun h10 => ?_)
    · refine CW.seq ?_
      refine CW.region ?_
      refine RL.val rfl (run_ldA (cs := [_]) Try.underlying43 rfl rfl rfl (rangeAt_cells (hH5.blk (i := 1) rfl))) ?_
      refine RL.set hH5 (i := 0) rfl (run_stW rfl rfl rfl hx.one (hH5.blk (i := 0) rfl) rfl) ?_
      intro w11 hH12
      simp only [List.set_cons_zero, List.set_cons_succ] at hH12
      refine RL.val rfl (run_assign (v := B false) rfl) ?_
      refine RL.nil ?_
      refine CW.ret ?_
      refine outCT Try.results35 rfl rfl hH12 (i := 0) rfl Try.underlying43 rfl rfl ⟨[], (hH12.sub (.cons _ (.cons _ (List.Sublist.refl _)))), x, (by rw [undo_no hne (by omega)]; rfl), ?_, ?_⟩
      · rw [undo_no hne (by omega)]
      · exact hx.mono (Le.z _ _)
    · refine CW.skip ?_
      refine CW.seq ?_
      refine CW.region ?_
      refine RL.new rfl hH5 (f := fun b => (.slice (some ⟨b, 0, none⟩) 0 0)) (run_mkE Try.underlying41 Try.sizeOf37) ?_
      intro b15 w13 hH14
      (try simp only [List.flatMap_cons, List.flatMap_nil, clI, clB, clS, clP, clL, clA, List.append_nil, List.cons_append, List.nil_append] at hH14)
      have hH16 := hH14.blkRow 0 1 rfl (by decide)
      refine RL.val rfl (run_fieldAddr Try.underlying43 rfl (off := 0) rfl Try.sizeOf41 (by decide) rfl) ?_
      refine RL.val rfl (run_ld Try.underlying41 rfl rfl (hH16.cell (i := 2) rfl rfl)) ?_
      refine RL.val rfl (run_move (v := I _) rfl) ?_
      refine RL.val rfl (run_add rfl rfl (by omega)) ?_
      refine RL.val rfl (run_cut ((hx.sl0).mono (Le.trans hK hH16.kw)).sl Try.underlying41 Try.sizeOf37 rfl rfl (by omega)) ?_
      refine RL.app rfl hH16 (i := 0) rfl (((hx.sl0).mono (Le.trans hK hH16.kw)).sl.cut _ (by omega)) rfl rfl Try.underlying41 rfl rfl (size := 1) (bytes := 24) rfl rfl rfl (by decide) (by rw [Nat.mul_one]; exact rws_one hx) (by omega) (by simp only [maxLen]; omega) ?_
      intro v17 w18 hH19
      simp only [List.set_cons_zero, List.set_cons_succ] at hH19
      obtain ⟨Z20, hz21, hv22, -⟩ := hH19.frz (K)
      have hH23 : Hp _ w18 (_ :: _ :: Z20) := hz21.zin0 (L := [_, _])
      have hy24 : FoV (Kz K Z20) ⟨v17, x.rs.take ((max 0 m).toNat + 1)⟩ := hx.take_ hv22 (by omega) (by rw [Nat.mul_one, List.nil_append]; congr 1; omega) (by omega)
      refine RL.val rfl (run_bld (vs := [(0, v17)]) rfl (built_rfo (one_slice hv22).2)) ?_
      refine RL.set hH23 (i := 0) rfl (run_stW rfl rfl rfl hy24.one (hH23.blk (i := 0) rfl) rfl) ?_
      intro w25 hH26
      simp only [List.set_cons_zero, List.set_cons_succ] at hH26
      refine RL.val rfl (run_assign (v := B true) rfl) ?_
      refine RL.nil ?_
      refine CW.ret ?_
      refine outCT Try.results35 rfl rfl hH26 (i := 0) rfl Try.underlying43 rfl rfl ⟨Z20, (hH26.sub (.cons _ (.cons _ (List.Sublist.refl _)))), ⟨v17, x.rs.take ((max 0 m).toNat + 1)⟩, (by rw [undo_yes (by omega)]; rfl), ?_, ?_⟩
      · rw [undo_yes (by omega), cs_take]
      · exact hy24
  · refine CW.skip ?_
    refine CW.seq ?_
    refine CW.seq ?_
    refine CW.region ?_
    refine RL.val rfl (run_move (v := I _) rfl) ?_
    refine RL.val rfl (run_fieldAddr Try.underlying43 rfl (off := 0) rfl Try.sizeOf41 (by decide) rfl) ?_
    refine RL.val rfl (run_ld Try.underlying41 rfl rfl (hH5.cell (i := 1) rfl rfl)) ?_
    refine RL.val rfl (run_lenSl ((hx.sl0).mono (Le.trans hK hH5.kw)).sl rfl Try.underlying41 rfl) ?_
    refine RL.val rfl (run_geq rfl rfl) ?_
    refine RL.nil ?_
    refine CW.condP rfl (fun h28 => ?_) (fun h28 => ?_)
    · refine CW.seq ?_
      refine CW.region ?_
      refine RL.val rfl (run_ldA (cs := [_]) Try.underlying43 rfl rfl rfl (rangeAt_cells (hH5.blk (i := 1) rfl))) ?_
      refine RL.set hH5 (i := 0) rfl (run_stW rfl rfl rfl hx.one (hH5.blk (i := 0) rfl) rfl) ?_
      intro w29 hH30
      simp only [List.set_cons_zero, List.set_cons_succ] at hH30
      refine RL.val rfl (run_assign (v := B false) rfl) ?_
      refine RL.nil ?_
      refine CW.ret ?_
      refine outCT Try.results35 rfl rfl hH30 (i := 0) rfl Try.underlying43 rfl rfl ⟨[], (hH30.sub (.cons _ (.cons _ (List.Sublist.refl _)))), x, (by rw [undo_no hne (by omega)]; rfl), ?_, ?_⟩
      · rw [undo_no hne (by omega)]
      · exact hx.mono (Le.z _ _)
    · refine CW.skip ?_
      refine CW.seq ?_
      refine CW.region ?_
      refine RL.new rfl hH5 (f := fun b => (.slice (some ⟨b, 0, none⟩) 0 0)) (run_mkE Try.underlying41 Try.sizeOf37) ?_
      intro b33 w31 hH32
      (try simp only [List.flatMap_cons, List.flatMap_nil, clI, clB, clS, clP, clL, clA, List.append_nil, List.cons_append, List.nil_append] at hH32)
      have hH34 := hH32.blkRow 0 1 rfl (by decide)
      refine RL.val rfl (run_fieldAddr Try.underlying43 rfl (off := 0) rfl Try.sizeOf41 (by decide) rfl) ?_
      refine RL.val rfl (run_ld Try.underlying41 rfl rfl (hH34.cell (i := 2) rfl rfl)) ?_
      refine RL.val rfl (run_move (v := I _) rfl) ?_
      refine RL.val rfl (run_add rfl rfl (by omega)) ?_
      refine RL.val rfl (run_cut ((hx.sl0).mono (Le.trans hK hH34.kw)).sl Try.underlying41 Try.sizeOf37 rfl rfl (by omega)) ?_
      refine RL.app rfl hH34 (i := 0) rfl (((hx.sl0).mono (Le.trans hK hH34.kw)).sl.cut _ (by omega)) rfl rfl Try.underlying41 rfl rfl (size := 1) (bytes := 24) rfl rfl rfl (by decide) (by rw [Nat.mul_one]; exact rws_one hx) (by omega) (by simp only [maxLen]; omega) ?_
      intro v35 w36 hH37
      simp only [List.set_cons_zero, List.set_cons_succ] at hH37
      obtain ⟨Z38, hz39, hv40, -⟩ := hH37.frz (K)
      have hH41 : Hp _ w36 (_ :: _ :: Z38) := hz39.zin0 (L := [_, _])
      have hy42 : FoV (Kz K Z38) ⟨v35, x.rs.take ((max 0 m).toNat + 1)⟩ := hx.take_ hv40 (by omega) (by rw [Nat.mul_one, List.nil_append]; congr 1; omega) (by omega)
      refine RL.val rfl (run_bld (vs := [(0, v35)]) rfl (built_rfo (one_slice hv40).2)) ?_
      refine RL.set hH41 (i := 0) rfl (run_stW rfl rfl rfl hy42.one (hH41.blk (i := 0) rfl) rfl) ?_
      intro w43 hH44
      simp only [List.set_cons_zero, List.set_cons_succ] at hH44
      refine RL.val rfl (run_assign (v := B true) rfl) ?_
      refine RL.nil ?_
      refine CW.ret ?_
      refine outCT Try.results35 rfl rfl hH44 (i := 0) rfl Try.underlying43 rfl rfl ⟨Z38, (hH44.sub (.cons _ (.cons _ (List.Sublist.refl _)))), ⟨v35, x.rs.take ((max 0 m).toNat + 1)⟩, (by rw [undo_yes (by omega)]; rfl), ?_, ?_⟩
      · rw [undo_yes (by omega), cs_take]
      · exact hy42
theorem c_forest_New  (w : World) : Calls Try.prog 8 #[] w (Ret fun u w' => ∃ (F : Nat) (Z : List Ent), u = .pointer (some ⟨F, 0, none⟩) ∧ Hp w w' Z ∧ FoZ FX F 0 [[]] Z) := by
  refine enter Try.func8 rfl Try.ntmps8 rfl ?_
  have hH := Hp.start w
  refine CW.seq ?_
  refine CW.region ?_
  refine RL.val rfl (run_assign (v := .pointer none) rfl) ?_
  refine RL.nil ?_
  refine CW.seq ?_
  refine CW.region ?_
  refine RL.val rfl (run_bld (cells := #[.slice none 0 0, .slice none 0 0, .slice none 0 0, I 0]) (vs := []) rfl rfl) ?_
  refine RL.new rfl hH (f := fun b => (.pointer (some ⟨b, 0, none⟩))) (run_box (v := .agg _) rfl) ?_
  intro b3 w1 hH2
  refine RL.val rfl (run_assign (v := .pointer (some ⟨_, _, none⟩)) rfl) ?_
  refine RL.nil ?_
  refine CW.ret ?_
  have hN := ((hH2.nilRow 3 1).nilRow 1 1).nilRow 28 1
  exact out1 Try.results8 (v := .pointer (some ⟨b3, 0, none⟩)) rfl ⟨b3, _, rfl, hN.perm (List.perm_append_comm (l₁ := [_, _, _]) (l₂ := [_])), FoZ.new⟩
theorem c_clearancelaw21_do (W0 : World) (F m : Nat) (cs : List (List Nat)) (Zf R A : List Ent) (x : RFo) (o : OpR) (hm : m ≤ 10000) (hn : x.rs.length ≤ 100000) (hb : (nowR x).l.length ≤ 1000000) (w : World) (hF : FoZ FX F m cs Zf) (hx : FoV (Kz (Kw W0) R) x) (hH : Hp W0 w (Zf ++ (R ++ A))) : Calls Try.prog 15 #[.pointer (some ⟨F, 0, none⟩), .agg #[x.v], .agg (opL o).toArray] w (Ret fun u w' => ∃ (y : RFo) (Z' z : List Ent), u = .tuple #[.agg #[y.v], B (doB cs x.cs o)] ∧ y.cs = stepC x.cs o ∧ FoV (Kz (Kw W0) (z ++ R)) y ∧ FoZ FX F (m + 1) (stepC cs o) Z' ∧ Hp W0 w' (Z' ++ (z ++ (R ++ A)))) := by
  refine enter Try.func15 rfl Try.ntmps15 rfl ?_
  refine CW.seq ?_
  refine CW.region ?_
  refine RL.new rfl hH (f := fun b => (.pointer (some ⟨b, 0, none⟩))) (run_box (v := .agg _) rfl) ?_
  intro b3 w1 hH2
  refine RL.new rfl hH2 (f := fun b => (.pointer (some ⟨b, 0, none⟩))) (run_box (v := .agg _) rfl) ?_
  intro b6 w4 hH5
  refine RL.new rfl hH5 (f := fun b => (.pointer (some ⟨b, 0, none⟩))) (run_alloc Try.zeroValue43) ?_
  intro b9 w7 hH8
  refine RL.val rfl (run_assign (v := B false) rfl) ?_
  refine RL.nil ?_
  refine CW.seq ?_
  refine CW.seq ?_
  refine CW.region ?_
  refine RL.val rfl (run_fieldAddr Try.underlying46 rfl (off := 0) rfl Try.sizeOf3 (by decide) rfl) ?_
  refine RL.val rfl (run_ld Try.underlying3 rfl rfl (hH8.cell (i := 1) rfl (v := I _) rfl)) ?_
  refine RL.nil ?_
  refine CW.block ?_
  refine CW.seq ?_
  refine CW.region ?_
  refine RL.val rfl (run_eql rfl rfl) ?_
  refine RL.val rfl (run_assign (v := B _) rfl) ?_
  refine RL.nil ?_
  refine CW.condP rfl (fun h11 => ?_) (fun h11 => ?_)
  · refine CW.seq ?_
    refine CW.region ?_
    refine RL.val rfl (run_ldA (cs := [_]) Try.underlying43 rfl rfl rfl (rangeAt_cells (hH8.blk (i := 2) rfl))) ?_
    refine RL.val rfl (run_fieldAddr Try.underlying46 rfl (off := 1) rfl Try.sizeOf3 (by decide) rfl) ?_
    refine RL.val rfl (run_ld Try.underlying3 rfl rfl (hH8.cell (i := 1) rfl (v := I _) rfl)) ?_
    refine RL.val rfl (run_fieldAddr Try.underlying46 rfl (off := 2) rfl Try.sizeOf3 (by decide) rfl) ?_
    refine RL.val rfl (run_ld Try.underlying3 rfl rfl (hH8.cell (i := 1) rfl (v := I _) rfl)) ?_
    refine RL.callF rfl hH8 (c_clearanceref21_Union (Kz (Kw W0) R) _ _ _ (by assumption) (by assumption) _ (hH8.kz (Le.refl _) (fun x hx => (List.mem_cons_of_mem _ (List.mem_cons_of_mem _ (List.mem_cons_of_mem _ (List.mem_append_right _ (List.mem_append_left _ hx))))))) hx) (run_call3 Try.call34 rfl rfl rfl) ?_
    intro v14 w15 Z17 hH16 hp18
    have hH19 : Hp _ w15 (_ :: _ :: _ :: (Z17 ++ (Zf ++ (R ++ A)))) := hH16.zin (L := [_, _, _]) (L' := (Zf ++ (R ++ A)))
    have hH21 : Hp _ w15 (_ :: _ :: _ :: (Zf ++ (Z17 ++ (R ++ A)))) := Hp.swz (A := [_, _, _]) hH19
    obtain ⟨n22, rfl, nd23, nv24⟩ := hp18
    refine RL.val rfl (run_move (by conv => lhs; whnf)) ?_
    refine RL.val rfl (run_extract rfl (v := .agg _) rfl) ?_
    refine RL.val rfl (run_extract rfl (v := B _) rfl) ?_
    refine RL.new rfl hH21 (f := fun b => (.pointer (some ⟨b, 0, none⟩))) (run_alloc Try.zeroValue43) ?_
    intro b28 w26 hH27
    refine RL.set hH27 (i := 0) rfl (run_stW rfl rfl rfl (nv24.mono Le.kk).one (hH27.blk (i := 0) rfl) rfl) ?_
    intro w29 hH30
    simp only [List.set_cons_zero, List.set_cons_succ] at hH30
    refine RL.val rfl (run_assign (v := B _) rfl) ?_
    refine RL.nil ?_
    refine CW.seq ?_
    refine CW.regionS (by kernel_rfl) hH30 (.cons_cons _ (.cons _ (.cons_cons _ (.cons_cons _ (List.sublist_append_of_sublist_right (List.Sublist.refl _)))))) ?_
    intro w31 hH32
    refine AN.take 0 rfl rfl (by kernel_rfl) (by kernel_rfl) (by kernel_rfl) (hH32.sub (.cons_cons _ (.cons _ (.cons_cons _ (.cons_cons _ (List.sublist_append_of_sublist_right (List.Sublist.refl _))))))) (fun w hS => run_ldA (cs := [_]) Try.underlying43 rfl rfl rfl (rangeAt_cells (hS.blk (i := 0) rfl))) ?_
    refine AN.take 1 rfl rfl (by kernel_rfl) (by kernel_rfl) (by kernel_rfl) (hH32.sub (.cons_cons _ (.cons _ (.cons_cons _ (.cons_cons _ (List.sublist_append_of_sublist_right (List.Sublist.refl _))))))) (fun w hS => run_move (v := .pointer (some ⟨_, _, none⟩)) rfl) ?_
    refine AN.take 2 rfl rfl (by kernel_rfl) (by kernel_rfl) (by kernel_rfl) (hH32.sub (.cons_cons _ (.cons _ (.cons_cons _ (.cons_cons _ (List.sublist_append_of_sublist_right (List.Sublist.refl _))))))) (fun w hS => run_fieldAddr Try.underlying46 rfl (off := 1) rfl Try.sizeOf3 (by decide) rfl) ?_
    refine AN.take 3 rfl rfl (by kernel_rfl) (by kernel_rfl) (by kernel_rfl) (hH32.sub (.cons_cons _ (.cons _ (.cons_cons _ (.cons_cons _ (List.sublist_append_of_sublist_right (List.Sublist.refl _))))))) (fun w hS => run_ld Try.underlying3 rfl rfl (hS.cell (i := 1) rfl (v := I _) rfl)) ?_
    refine AN.take 4 rfl rfl (by kernel_rfl) (by kernel_rfl) (by kernel_rfl) (hH32.sub (.cons_cons _ (.cons _ (.cons_cons _ (.cons_cons _ (List.sublist_append_of_sublist_right (List.Sublist.refl _))))))) (fun w hS => run_fieldAddr Try.underlying46 rfl (off := 2) rfl Try.sizeOf3 (by decide) rfl) ?_
    refine AN.take 5 rfl rfl (by kernel_rfl) (by kernel_rfl) (by kernel_rfl) (hH32.sub (.cons_cons _ (.cons _ (.cons_cons _ (.cons_cons _ (List.sublist_append_of_sublist_right (List.Sublist.refl _))))))) (fun w hS => run_ld Try.underlying3 rfl rfl (hS.cell (i := 1) rfl (v := I _) rfl)) ?_
    refine AN.take 7 rfl rfl (by kernel_rfl) (by kernel_rfl) (by kernel_rfl) (hH32.sub (.cons_cons _ (.cons _ (.cons_cons _ (.cons_cons _ (List.sublist_append_of_sublist_right (List.Sublist.refl _))))))) (fun w hS => run_move (v := B _) rfl) ?_
    refine AN.one 6 (by kernel_rfl) ?_
    refine AO.callT rfl gnone rfl (m_Union _ _ (by omega) hF (Hp.zfront (A := [_, _, _, _]) hH32)) (run_call3 Try.call10 rfl rfl rfl) (fun u w' ⟨_, Z', _, h⟩ => Hp.sub (L := _ :: _ :: _ :: _ :: (Z' ++ (Z17 ++ (R ++ A)))) (Hp.zback (A := [_, _, _, _]) h) (.cons_cons _ (.cons _ (.cons_cons _ (.cons_cons _ (List.sublist_append_of_sublist_right (List.Sublist.refl _))))))) ?_
    rintro _ w35 ⟨rfl, Z36, hF37, h38⟩
    have hH39 : Hp _ w35 (_ :: _ :: _ :: _ :: (Z36 ++ (Z17 ++ (R ++ A)))) := (Hp.zback (A := [_, _, _, _]) h38)
    refine AN.take 8 rfl rfl (by kernel_rfl) (by kernel_rfl) (by kernel_rfl) (hH39.sub (.cons_cons _ (.cons _ (.cons_cons _ (.cons_cons _ (List.sublist_append_of_sublist_right (List.Sublist.refl _))))))) (fun w hS => run_eqlB Try.underlying4 rfl rfl) ?_
    refine AN.one 9 (by kernel_rfl) ?_
    refine AO.set rfl gnone hH39 (j := 1) rfl (.cons_cons _ (.cons _ (.cons_cons _ (.cons_cons _ (List.sublist_append_of_sublist_right (List.Sublist.refl _)))))) (run_stW rfl rfl rfl (nv24.mono Le.kk).one (hH39.blk (i := 1) rfl) rfl) ?_
    intro w44 hH45
    simp only [List.set_cons_zero, List.set_cons_succ] at hH45
    refine AN.take 10 rfl rfl (by kernel_rfl) (by kernel_rfl) (by kernel_rfl) (hH45.sub (.cons_cons _ (.cons _ (.cons_cons _ (.cons_cons _ (List.sublist_append_of_sublist_right (List.Sublist.refl _))))))) (fun w hS => run_assign (v := B _) rfl) ?_
    refine AN.done (by kernel_rfl) ?_
    refine CW.ret ?_
    obtain ⟨d1, d2, d3⟩ : doB cs x.cs o = _ ∧ stepC cs o = _ ∧ stepC x.cs o = _ := do_1 ‹_›
    exact outCT Try.results15 rfl rfl hH45 (i := 1) rfl Try.underlying43 rfl rfl ⟨n22, Z36, Z17, (by rw [d1]; rfl), (by rw [d3]; exact nd23), (nv24.mono Le.kk), (by rw [d2]; exact hF37), hH45.sub (.cons _ (.cons _ (.cons _ (.cons _ (List.Sublist.refl _)))))⟩
  · refine CW.seq ?_
    refine CW.region ?_
    refine RL.val rfl (run_eql rfl rfl) ?_
    refine RL.val rfl (run_assign (v := B _) rfl) ?_
    refine RL.nil ?_
    refine CW.condP rfl (fun h47 => ?_) (fun h47 => ?_)
    · refine CW.seq ?_
      refine CW.region ?_
      refine RL.val rfl (run_ldA (cs := [_]) Try.underlying43 rfl rfl rfl (rangeAt_cells (hH8.blk (i := 2) rfl))) ?_
      refine RL.val rfl (run_fieldAddr Try.underlying46 rfl (off := 1) rfl Try.sizeOf3 (by decide) rfl) ?_
      refine RL.val rfl (run_ld Try.underlying3 rfl rfl (hH8.cell (i := 1) rfl (v := I _) rfl)) ?_
      refine RL.callF rfl hH8 (c_clearanceref21_Undo (Kz (Kw W0) R) _ _ (by assumption) _ (hH8.kz (Le.refl _) (fun x hx => (List.mem_cons_of_mem _ (List.mem_cons_of_mem _ (List.mem_cons_of_mem _ (List.mem_append_right _ (List.mem_append_left _ hx))))))) hx) (run_call2 Try.call35 rfl rfl) ?_
      intro v50 w51 Z53 hH52 hp54
      have hH55 : Hp _ w51 (_ :: _ :: _ :: (Z53 ++ (Zf ++ (R ++ A)))) := hH52.zin (L := [_, _, _]) (L' := (Zf ++ (R ++ A)))
      have hH57 : Hp _ w51 (_ :: _ :: _ :: (Zf ++ (Z53 ++ (R ++ A)))) := Hp.swz (A := [_, _, _]) hH55
      obtain ⟨n58, rfl, nd59, nv60⟩ := hp54
      refine RL.val rfl (run_move (by conv => lhs; whnf)) ?_
      refine RL.val rfl (run_extract rfl (v := .agg _) rfl) ?_
      refine RL.val rfl (run_extract rfl (v := B _) rfl) ?_
      refine RL.new rfl hH57 (f := fun b => (.pointer (some ⟨b, 0, none⟩))) (run_alloc Try.zeroValue43) ?_
      intro b64 w62 hH63
      refine RL.set hH63 (i := 0) rfl (run_stW rfl rfl rfl (nv60.mono Le.kk).one (hH63.blk (i := 0) rfl) rfl) ?_
      intro w65 hH66
      simp only [List.set_cons_zero, List.set_cons_succ] at hH66
      refine RL.val rfl (run_assign (v := B _) rfl) ?_
      refine RL.nil ?_
      refine CW.seq ?_
      refine CW.regionS (by kernel_rfl) hH66 (.cons_cons _ (.cons _ (.cons_cons _ (.cons_cons _ (List.sublist_append_of_sublist_right (List.Sublist.refl _)))))) ?_
      intro w67 hH68
      refine AN.take 0 rfl rfl (by kernel_rfl) (by kernel_rfl) (by kernel_rfl) (hH68.sub (.cons_cons _ (.cons _ (.cons_cons _ (.cons_cons _ (List.sublist_append_of_sublist_right (List.Sublist.refl _))))))) (fun w hS => run_ldA (cs := [_]) Try.underlying43 rfl rfl rfl (rangeAt_cells (hS.blk (i := 0) rfl))) ?_
      refine AN.take 1 rfl rfl (by kernel_rfl) (by kernel_rfl) (by kernel_rfl) (hH68.sub (.cons_cons _ (.cons _ (.cons_cons _ (.cons_cons _ (List.sublist_append_of_sublist_right (List.Sublist.refl _))))))) (fun w hS => run_move (v := .pointer (some ⟨_, _, none⟩)) rfl) ?_
      refine AN.take 2 rfl rfl (by kernel_rfl) (by kernel_rfl) (by kernel_rfl) (hH68.sub (.cons_cons _ (.cons _ (.cons_cons _ (.cons_cons _ (List.sublist_append_of_sublist_right (List.Sublist.refl _))))))) (fun w hS => run_fieldAddr Try.underlying46 rfl (off := 1) rfl Try.sizeOf3 (by decide) rfl) ?_
      refine AN.take 3 rfl rfl (by kernel_rfl) (by kernel_rfl) (by kernel_rfl) (hH68.sub (.cons_cons _ (.cons _ (.cons_cons _ (.cons_cons _ (List.sublist_append_of_sublist_right (List.Sublist.refl _))))))) (fun w hS => run_ld Try.underlying3 rfl rfl (hS.cell (i := 1) rfl (v := I _) rfl)) ?_
      refine AN.take 5 rfl rfl (by kernel_rfl) (by kernel_rfl) (by kernel_rfl) (hH68.sub (.cons_cons _ (.cons _ (.cons_cons _ (.cons_cons _ (List.sublist_append_of_sublist_right (List.Sublist.refl _))))))) (fun w hS => run_move (v := B _) rfl) ?_
      refine AN.one 4 (by kernel_rfl) ?_
      refine AO.callT rfl gnone rfl (m_Undo _ (by omega) hF (Hp.zfront (A := [_, _, _, _]) hH68)) (run_call2 Try.call25 rfl rfl) (fun u w' ⟨_, Z', _, h⟩ => Hp.sub (L := _ :: _ :: _ :: _ :: (Z' ++ (Z53 ++ (R ++ A)))) (Hp.zback (A := [_, _, _, _]) h) (.cons_cons _ (.cons _ (.cons_cons _ (.cons_cons _ (List.sublist_append_of_sublist_right (List.Sublist.refl _))))))) ?_
      rintro _ w71 ⟨rfl, Z72, hF73, h74⟩
      have hH75 : Hp _ w71 (_ :: _ :: _ :: _ :: (Z72 ++ (Z53 ++ (R ++ A)))) := (Hp.zback (A := [_, _, _, _]) h74)
      refine AN.take 6 rfl rfl (by kernel_rfl) (by kernel_rfl) (by kernel_rfl) (hH75.sub (.cons_cons _ (.cons _ (.cons_cons _ (.cons_cons _ (List.sublist_append_of_sublist_right (List.Sublist.refl _))))))) (fun w hS => run_eqlB Try.underlying4 rfl rfl) ?_
      refine AN.one 7 (by kernel_rfl) ?_
      refine AO.set rfl gnone hH75 (j := 1) rfl (.cons_cons _ (.cons _ (.cons_cons _ (.cons_cons _ (List.sublist_append_of_sublist_right (List.Sublist.refl _)))))) (run_stW rfl rfl rfl (nv60.mono Le.kk).one (hH75.blk (i := 1) rfl) rfl) ?_
      intro w80 hH81
      simp only [List.set_cons_zero, List.set_cons_succ] at hH81
      refine AN.take 8 rfl rfl (by kernel_rfl) (by kernel_rfl) (by kernel_rfl) (hH81.sub (.cons_cons _ (.cons _ (.cons_cons _ (.cons_cons _ (List.sublist_append_of_sublist_right (List.Sublist.refl _))))))) (fun w hS => run_assign (v := B _) rfl) ?_
      refine AN.done (by kernel_rfl) ?_
      refine CW.ret ?_
      obtain ⟨d1, d2, d3⟩ : doB cs x.cs o = _ ∧ stepC cs o = _ ∧ stepC x.cs o = _ := do_2 ‹_› ‹_›
      exact outCT Try.results15 rfl rfl hH81 (i := 1) rfl Try.underlying43 rfl rfl ⟨n58, Z72, Z53, (by rw [d1]; rfl), (by rw [d3]; exact nd59), (nv60.mono Le.kk), (by rw [d2]; exact hF73), hH81.sub (.cons _ (.cons _ (.cons _ (.cons _ (List.Sublist.refl _)))))⟩
    · refine CW.skip ?_
      refine CW.seq ?_
      refine CW.region ?_
      refine RL.val rfl (run_ldA (cs := [_]) Try.underlying43 rfl rfl rfl (rangeAt_cells (hH8.blk (i := 2) rfl))) ?_
      refine RL.callF rfl hH8 (c_clearanceref21_Add (Kz (Kw W0) R) _ (by assumption) (by assumption) _ (hH8.kz (Le.refl _) (fun x hx => (List.mem_cons_of_mem _ (List.mem_cons_of_mem _ (List.mem_cons_of_mem _ (List.mem_append_right _ (List.mem_append_left _ hx))))))) hx) (run_call1 Try.call36 rfl) ?_
      intro v84 w85 Z87 hH86 hp88
      have hH89 : Hp _ w85 (_ :: _ :: _ :: (Z87 ++ (Zf ++ (R ++ A)))) := hH86.zin (L := [_, _, _]) (L' := (Zf ++ (R ++ A)))
      have hH91 : Hp _ w85 (_ :: _ :: _ :: (Zf ++ (Z87 ++ (R ++ A)))) := Hp.swz (A := [_, _, _]) hH89
      obtain ⟨n92, rfl, nd93, nv94⟩ := hp88
      refine RL.val rfl (run_move (by conv => lhs; whnf)) ?_
      refine RL.val rfl (run_extract rfl (v := .agg _) rfl) ?_
      refine RL.val rfl (run_extract rfl (v := I _) rfl) ?_
      refine RL.new rfl hH91 (f := fun b => (.pointer (some ⟨b, 0, none⟩))) (run_alloc Try.zeroValue43) ?_
      intro b97 w95 hH96
      refine RL.set hH96 (i := 0) rfl (run_stW rfl rfl rfl (nv94.mono Le.kk).one (hH96.blk (i := 0) rfl) rfl) ?_
      intro w98 hH99
      simp only [List.set_cons_zero, List.set_cons_succ] at hH99
      refine RL.val rfl (run_assign (v := I _) rfl) ?_
      refine RL.nil ?_
      refine CW.seq ?_
      refine CW.regionS (by kernel_rfl) hH99 (.cons_cons _ (.cons _ (.cons_cons _ (.cons_cons _ (List.sublist_append_of_sublist_right (List.Sublist.refl _)))))) ?_
      intro w100 hH101
      refine AN.take 0 rfl rfl (by kernel_rfl) (by kernel_rfl) (by kernel_rfl) (hH101.sub (.cons_cons _ (.cons _ (.cons_cons _ (.cons_cons _ (List.sublist_append_of_sublist_right (List.Sublist.refl _))))))) (fun w hS => run_ldA (cs := [_]) Try.underlying43 rfl rfl rfl (rangeAt_cells (hS.blk (i := 0) rfl))) ?_
      refine AN.take 1 rfl rfl (by kernel_rfl) (by kernel_rfl) (by kernel_rfl) (hH101.sub (.cons_cons _ (.cons _ (.cons_cons _ (.cons_cons _ (List.sublist_append_of_sublist_right (List.Sublist.refl _))))))) (fun w hS => run_move (v := .pointer (some ⟨_, _, none⟩)) rfl) ?_
      refine AN.take 3 rfl rfl (by kernel_rfl) (by kernel_rfl) (by kernel_rfl) (hH101.sub (.cons_cons _ (.cons _ (.cons_cons _ (.cons_cons _ (List.sublist_append_of_sublist_right (List.Sublist.refl _))))))) (fun w hS => run_move (v := I _) rfl) ?_
      refine AN.one 2 (by kernel_rfl) ?_
      refine AO.callT rfl gnone rfl (m_Add (by omega) hF (Hp.zfront (A := [_, _, _, _]) hH101)) (run_call1 Try.call9 rfl) (fun u w' ⟨_, Z', _, h⟩ => Hp.sub (L := _ :: _ :: _ :: _ :: (Z' ++ (Z87 ++ (R ++ A)))) (Hp.zback (A := [_, _, _, _]) h) (.cons_cons _ (.cons _ (.cons_cons _ (.cons_cons _ (List.sublist_append_of_sublist_right (List.Sublist.refl _))))))) ?_
      rintro _ w104 ⟨rfl, Z105, hF106, h107⟩
      have hH108 : Hp _ w104 (_ :: _ :: _ :: _ :: (Z105 ++ (Z87 ++ (R ++ A)))) := (Hp.zback (A := [_, _, _, _]) h107)
      refine AN.take 4 rfl rfl (by kernel_rfl) (by kernel_rfl) (by kernel_rfl) (hH108.sub (.cons_cons _ (.cons _ (.cons_cons _ (.cons_cons _ (List.sublist_append_of_sublist_right (List.Sublist.refl _))))))) (fun w hS => run_eql rfl rfl) ?_
      refine AN.one 5 (by kernel_rfl) ?_
      refine AO.set rfl gnone hH108 (j := 1) rfl (.cons_cons _ (.cons _ (.cons_cons _ (.cons_cons _ (List.sublist_append_of_sublist_right (List.Sublist.refl _)))))) (run_stW rfl rfl rfl (nv94.mono Le.kk).one (hH108.blk (i := 1) rfl) rfl) ?_
      intro w112 hH113
      simp only [List.set_cons_zero, List.set_cons_succ] at hH113
      refine AN.take 6 rfl rfl (by kernel_rfl) (by kernel_rfl) (by kernel_rfl) (hH113.sub (.cons_cons _ (.cons _ (.cons_cons _ (.cons_cons _ (List.sublist_append_of_sublist_right (List.Sublist.refl _))))))) (fun w hS => run_assign (v := B _) rfl) ?_
      refine AN.done (by kernel_rfl) ?_
      refine CW.ret ?_
      obtain ⟨d1, d2, d3⟩ : doB cs x.cs o = _ ∧ stepC cs o = _ ∧ stepC x.cs o = _ := do_3 ‹_› ‹_›
      exact outCT Try.results15 rfl rfl hH113 (i := 1) rfl Try.underlying43 rfl rfl ⟨n92, Z105, Z87, (by rw [d1]; rfl), (by rw [d3]; exact nd93), (nv94.mono Le.kk), (by rw [d2]; exact hF106), hH113.sub (.cons _ (.cons _ (.cons _ (.cons _ (List.Sublist.refl _)))))⟩
theorem c_clearancelaw21_alive  (w : World) : Calls Try.prog 7 #[] w (Pure (B true) w) := by
  refine enter Try.func7 rfl Try.ntmps7 rfl ?_
  have hH := Hp.start w
  refine CW.seq ?_
  refine CW.region ?_
  refine RL.val rfl (run_assign (v := B false) rfl) ?_
  refine RL.nil ?_
  refine CW.seq ?_
  refine CW.region ?_
  refine RL.callT rfl (c_forest_New _) (run_call0 Try.call8) ?_
  rintro _ w5 ⟨F3, Zf4, rfl, hz6, hF7⟩
  have hH8 : Hp _ w5 (Zf4) := Hp.unZ (A := []) (Hp.zin (L := []) (L' := []) ((Hp.nilT (L := []) hH).callZ hz6))
  refine RL.val rfl (run_assign (v := .pointer (some ⟨_, _, none⟩)) rfl) ?_
  refine RL.nil ?_
  refine CW.seq ?_
  refine CW.region ?_
  refine RL.val rfl (run_move (v := .pointer (some ⟨_, _, none⟩)) rfl) ?_
  refine RL.callT rfl (m_Add (by omega) hF7 (Hp.zfront (A := []) (Hp.nilZ (A := []) hH8))) (run_call1 Try.call9 rfl) ?_
  rintro _ w11 ⟨rfl, Z12, hF13, h14⟩
  have hH15 : Hp _ w11 (Z12) := (Hp.unZ (A := []) (Hp.zback (A := []) h14))
  refine RL.val rfl (run_move (v := .pointer (some ⟨_, _, none⟩)) rfl) ?_
  refine RL.callT rfl (m_Add (by omega) hF13 (Hp.zfront (A := []) (Hp.nilZ (A := []) hH15))) (run_call1 Try.call9 rfl) ?_
  rintro _ w18 ⟨rfl, Z19, hF20, h21⟩
  have hH22 : Hp _ w18 (Z19) := (Hp.unZ (A := []) (Hp.zback (A := []) h21))
  refine RL.val rfl (run_move (v := .pointer (some ⟨_, _, none⟩)) rfl) ?_
  refine RL.callT rfl (m_Add (by omega) hF20 (Hp.zfront (A := []) (Hp.nilZ (A := []) hH22))) (run_call1 Try.call9 rfl) ?_
  rintro _ w25 ⟨rfl, Z26, hF27, h28⟩
  have hH29 : Hp _ w25 (Z26) := (Hp.unZ (A := []) (Hp.zback (A := []) h28))
  refine RL.val rfl (run_assign (v := I _) rfl) ?_
  refine RL.val rfl (run_assign (v := I _) rfl) ?_
  refine RL.val rfl (run_assign (v := I _) rfl) ?_
  refine RL.nil ?_
  refine CW.seq ?_
  refine CW.region ?_
  refine RL.val rfl (run_move (v := I _) rfl) ?_
  refine RL.val rfl (run_eql rfl rfl) ?_
  refine RL.val rfl (run_move (v := B _) rfl) ?_
  refine RL.gT rfl (bT (by decide +kernel)) ?_
  refine RL.val rfl (run_move (v := I _) rfl) ?_
  refine RL.gT rfl (bT (by decide +kernel)) ?_
  refine RL.val rfl (run_eql rfl rfl) ?_
  refine RL.val rfl (run_pickT (bT (by decide +kernel)) (v := B _) rfl) ?_
  refine RL.val rfl (run_move (v := B _) rfl) ?_
  refine RL.gT rfl (bT (by decide +kernel)) ?_
  refine RL.val rfl (run_move (v := I _) rfl) ?_
  refine RL.gT rfl (bT (by decide +kernel)) ?_
  refine RL.val rfl (run_eql rfl rfl) ?_
  refine RL.val rfl (run_pickT (bT (by decide +kernel)) (v := B _) rfl) ?_
  refine RL.val rfl (run_move (v := B _) rfl) ?_
  refine RL.gT rfl (bT (by decide +kernel)) ?_
  refine RL.val rfl (run_move (v := .pointer (some ⟨_, _, none⟩)) rfl) ?_
  refine RL.gT rfl (bT (by decide +kernel)) ?_
  refine RL.callT rfl (m_Union _ _ (by omega) hF27 (Hp.zfront (A := []) (Hp.nilZ (A := []) hH29))) (run_call3 Try.call10 rfl (show _ = I 0 from rfl) (show _ = I 2 from rfl)) ?_
  rintro _ w35 ⟨rfl, Z36, hF37, h38⟩
  have hH39 : Hp _ w35 (Z36) := (Hp.unZ (A := []) (Hp.zback (A := []) h38))
  refine RL.val rfl (run_pickT (bT (by decide +kernel)) (v := B _) rfl) ?_
  refine RL.val rfl (run_move (v := B _) rfl) ?_
  refine RL.gT rfl (bR (c := true) (by decide +kernel)) ?_
  refine RL.val rfl (run_move (v := .pointer (some ⟨_, _, none⟩)) rfl) ?_
  refine RL.gT rfl (bR (c := true) (by decide +kernel)) ?_
  refine RL.callR rfl hH39 (m_Class _ (by omega) hF37 hH39 (fun x hx => hx)) (run_call2 Try.call23 rfl (show _ = I 2 from rfl)) ?_
  intro v43 w41 hH42
  refine RL.gT rfl (bR (c := true) (by decide +kernel)) ?_
  refine RL.new rfl hH42 (f := fun b => (.slice (some ⟨b, 0, none⟩) 2 2)) (run_mkL Try.underlying37 rfl rfl (sz := 1) (vs := [I 0, I 2]) rfl rfl (by decide) (by decide) rfl rfl) ?_
  intro b46 w44 hH45
  (try simp only [List.flatMap_cons, List.flatMap_nil, clI, clB, clS, clP, clL, clA, List.append_nil, List.cons_append, List.nil_append] at hH45)
  refine RL.gT rfl (bR (c := true) (by decide +kernel)) ?_
  refine RL.callP rfl hH45 (c_clearanceref01_Ints _ _ (classI [0, 1, 0] 2) [0, 2] _ (hH45.sl (i := 1) rfl) (hH45.slBlk (i := 0) (n := 2) (sz := 1) rfl rfl (by decide))) (run_call2 Try.call22 rfl rfl) ?_
  intro w47 hH48
  refine RL.val rfl (run_pickT (bR (c := true) (by decide +kernel)) (v := B _) rfl) ?_
  refine RL.val rfl (run_move (v := B _) rfl) ?_
  refine RL.gT rfl (bT (by decide +kernel)) ?_
  refine RL.val rfl (run_move (v := .pointer (some ⟨_, _, none⟩)) rfl) ?_
  refine RL.gT rfl (bT (by decide +kernel)) ?_
  refine RL.callP rfl hH48 (m_Count hF37 hH48 (fun x hx => (List.mem_cons_of_mem _ (List.mem_cons_of_mem _ hx)))) (run_call1 Try.call18 rfl) ?_
  intro w51 hH52
  refine RL.gT rfl (bT (by decide +kernel)) ?_
  refine RL.val rfl (run_eql rfl rfl) ?_
  refine RL.val rfl (run_pickT (bT (by decide +kernel)) (v := B _) rfl) ?_
  refine RL.val rfl (run_move (v := B _) rfl) ?_
  refine RL.gT rfl (bT (by decide +kernel)) ?_
  refine RL.val rfl (run_move (v := .pointer (some ⟨_, _, none⟩)) rfl) ?_
  refine RL.gT rfl (bT (by decide +kernel)) ?_
  refine RL.callT rfl (m_Union _ _ (by omega) hF37 (Hp.zfront (A := [_, _]) (Hp.nilZ (A := [_, _]) hH52))) (run_call3 Try.call10 rfl (show _ = I 2 from rfl) (show _ = I 0 from rfl)) ?_
  rintro _ w56 ⟨rfl, Z57, hF58, h59⟩
  have hH60 : Hp _ w56 (_ :: _ :: Z57) := (Hp.unZ (A := [_, _]) (Hp.zback (A := [_, _]) h59))
  refine RL.gT rfl (bT (by decide +kernel)) ?_
  refine RL.val rfl (run_not (bR (c := false) (by decide +kernel))) ?_
  refine RL.val rfl (run_pickT (bT (by decide +kernel)) (v := B _) rfl) ?_
  refine RL.val rfl (run_assign (v := B _) rfl) ?_
  refine RL.nil ?_
  refine CW.ret ?_
  refine outP1 Try.results7 (congrArg B ?_) hH60.below
  rfl
theorem c_clearancelaw21_ForestPlays (v : Value) (l : List OpR) (i : Int) (w : World) (hs : Sl w v 3 l.length (l.flatMap opL)) : Calls Try.prog 4 #[v, I i] w (Pure (B true) w) := by
  have hm := hs.small
  unfold maxLen at hm
  refine enter Try.func4 rfl Try.ntmps4 rfl ?_
  have hH := Hp.start w
  refine CW.seq ?_
  refine CW.region ?_
  refine RL.val rfl (run_assign (v := B false) rfl) ?_
  refine RL.nil ?_
  refine CW.seq ?_
  refine CW.seq ?_
  refine CW.region ?_
  refine RL.val rfl (run_move (by conv => lhs; whnf)) ?_
  refine RL.val rfl (run_lenSl (hs.hp hH) rfl Try.underlying40 rfl) ?_
  refine RL.val rfl (run_gtr rfl rfl) ?_
  refine RL.nil ?_
  refine CW.condP rfl (fun h2 => ?_) (fun h2 => ?_)
  · refine CW.seq ?_
    refine CW.region ?_
    refine RL.callP rfl hH (c_clearancelaw21_alive   _) (run_call0 Try.call7) ?_
    intro w3 hH4
    refine RL.val rfl (run_assign (v := B _) rfl) ?_
    refine RL.nil ?_
    refine CW.ret ?_
    refine outP1 Try.results4 (congrArg B ?_) hH4.below
    rfl
  · refine CW.skip ?_
    refine CW.seq ?_
    refine CW.region ?_
    refine RL.callT rfl (c_forest_New _) (run_call0 Try.call8) ?_
    rintro _ w10 ⟨F8, Zf9, rfl, hz11, hF12⟩
    have hH13 : Hp _ w10 (Zf9) := Hp.unZ (A := []) (Hp.zin (L := []) (L' := []) ((Hp.nilT (L := []) hH).callZ hz11))
    refine RL.callF rfl hH13 (c_clearanceref21_New (Kw w)   _ (Le.trans (Le.refl _) hH13.kw)) (run_call0 Try.call14) ?_
    intro v16 w17 Z19 hH18 hp20
    have hH21 : Hp _ w17 ((Z19 ++ Zf9)) := hH18.zin (L := []) (L' := Zf9)
    have hH22 : Hp _ w17 ((Zf9 ++ Z19)) := Hp.sw2 (A := []) hH21
    obtain ⟨n23, rfl, nd24, nv25⟩ := hp20
    refine RL.new rfl hH22 (f := fun b => (.pointer (some ⟨b, 0, none⟩))) (run_alloc Try.zeroValue43) ?_
    intro b28 w26 hH27
    refine RL.val rfl (run_assign (v := .pointer (some ⟨_, _, none⟩)) rfl) ?_
    refine RL.set hH27 (i := 0) rfl (run_stW rfl rfl rfl nv25.one (hH27.blk (i := 0) rfl) rfl) ?_
    intro w29 hH30
    simp only [List.set_cons_zero, List.set_cons_succ] at hH30
    refine RL.nil ?_
    refine CW.seq ?_
    refine CW.seq ?_
    refine CW.region ?_
    refine RL.val rfl (run_move (by conv => lhs; whnf)) ?_
    refine RL.val rfl (run_lenSl (hs.hp hH30) rfl Try.underlying40 rfl) ?_
    refine RL.val rfl (run_move (v := I 0) rfl) ?_
    refine RL.nil ?_
    refine CW.block ?_
    refine CW.loop (G := (Int) × (List (List Nat)) × (RFo) × (List Ent)) (fun (⟨k, cs, x, Z1⟩ : (Int) × (List (List Nat)) × (RFo) × (List Ent)) s' w' => (Fr [4, 8, 9, 10, 11, 20, 21, 22, 23, 24, 25, 26, 27, 28, 29, 30, 31, 32, 33, 34, 35, 36, 37, 38, 39, 40, 41, 42, 43, 44, 45, 46, 47, 48, 49, 50, 51, 52, 53, 54, 55, 56, 57, 58, 59, 60, 61, 62, 63, 64, 65, 66, 67, 68, 69, 70, 71, 72, 73, 74, 75, 76, 77, 78, 79, 80, 81, 82, 83, 84, 85, 86, 87, 88, 89, 90, 91, 92, 93, 94, 95, 96, 97, 98, 99, 100] _ s') ∧ (Hp w w' (.blk b28 (.cells #[x.v] 43 (0, 0)) :: Z1)) ∧ (s' 20 = I k) ∧ (0 ≤ k) ∧ (k ≤ l.length) ∧ (StP FX F8 k.toNat (Kw w) cs x Z1)) (fun (⟨k, cs, x, Z1⟩ : (Int) × (List (List Nat)) × (RFo) × (List Ent)) => (l.length - k).toNat) ((0, [[]], n23, (Zf9 ++ Z19))) ⟨Fr.refl _ _, hH30, rfl, (by omega), (by omega), ⟨_, _, rfl, hF12, nv25, nd24⟩⟩ ?_
    rintro ⟨k, cs, x, Z1⟩ sg31 w31 ⟨fr31, hH31, e20_31, h0, hk, hS⟩
    have e1_31 : sg31 1 = I _ := (fr31 1 rfl).trans rfl
    have e5_31 : sg31 5 = .pointer (some ⟨_, _, none⟩) := (fr31 5 rfl).trans rfl
    have e6_31 : sg31 6 = .pointer (some ⟨_, _, none⟩) := (fr31 6 rfl).trans rfl
    have e18_31 := (fr31 18 rfl).trans (by conv => lhs; whnf)
    have e19_31 : sg31 19 = I _ := (fr31 19 rfl).trans rfl
    obtain ⟨Zf, Zv, rfl, hF, hV, hxc⟩ := hS
    have fs := hF.small
    have xl := cs_len (x := x)
    have nx := congrArg List.length (now_cs hV.ne)
    rw [hxc] at nx xl
    refine CW.seq ?_
    refine CW.region ?_
    refine RL.val rfl (run_lss e20_31 e19_31) ?_
    refine RL.nil ?_
    refine CW.seq ?_
    refine CW.condP rfl (fun h33 => ?_) (fun h33 => ?_)
    · refine CW.skip ?_
      refine CW.seq ?_
      refine CW.block ?_
      refine CW.seq ?_
      refine CW.region ?_
      refine RL.val rfl (run_indexAddrS (hs.hp hH31) Try.underlying40 Try.sizeOf46 e18_31 e20_31 (by omega)) ?_
      refine RL.val rfl (run_ldE (dv := op0) opL_len (hs.hp hH31) Try.underlying46 rfl rfl rfl (by omega)) ?_
      refine RL.new rfl hH31 (f := fun b => (.pointer (some ⟨b, 0, none⟩))) (run_alloc Try.zeroValue46) ?_
      intro b36 w34 hH35
      refine RL.set hH35 (i := 0) rfl (run_stW rfl rfl rfl (opL_one _) (hH35.blk (i := 0) rfl) rfl) ?_
      intro w37 hH38
      simp only [List.set_cons_zero, List.set_cons_succ] at hH38
      refine RL.nil ?_
      refine CW.seq ?_
      refine CW.region ?_
      refine RL.val rfl (run_move e5_31) ?_
      refine RL.val rfl (run_ldA (cs := [_]) Try.underlying43 rfl rfl e6_31 (rangeAt_cells (hH38.blk (i := 1) rfl))) ?_
      refine RL.val rfl (run_ldA (cs := [I _, I _, I _]) Try.underlying46 rfl rfl rfl (rangeAt_cells (hH38.blk (i := 0) rfl))) ?_
      refine RL.callT rfl (c_clearancelaw21_do _ _ _ _ _ Zv _ _ _ (by omega) (by omega) (by omega) _ hF hV (Hp.zdo (A := [_, _]) hH38)) (run_call3 Try.call15 rfl rfl rfl) ?_
      rintro _ w44 ⟨y41, Z42, z43, rfl, yc45, yv46, hF47, h48⟩
      have hH49 : Hp _ w44 (_ :: _ :: (Z42 ++ (z43 ++ Zv))) := (Hp.zdone (A := [_, _]) h48)
      refine RL.val rfl (run_move (by conv => lhs; whnf)) ?_
      have hyc : y41.cs = (stepC cs (l.getD k.toNat op0)) := yc45.trans (by rw [hxc])
      have e1 : (rwI (nowR y41).l).length = (nowC (stepC cs (l.getD k.toNat op0))).length := by rw [rwI_len, ← now_cs yv46.ne, hyc]
      have e3 := cs_len (x := y41)
      rw [hyc] at e3
      have fs2 := hF47.small
      have hb2 : (nowR y41).l.length ≤ 1000000 := by rw [← now_cs yv46.ne, hyc]; omega
      refine RL.val rfl (run_extract rfl (v := .agg _) rfl) ?_
      refine RL.val rfl (run_extract rfl (v := B _) rfl) ?_
      refine RL.new rfl hH49 (f := fun b => (.pointer (some ⟨b, 0, none⟩))) (run_alloc Try.zeroValue43) ?_
      intro b53 w51 hH52
      refine RL.set hH52 (i := 0) rfl (run_stW rfl rfl rfl yv46.one (hH52.blk (i := 0) rfl) rfl) ?_
      intro w54 hH55
      simp only [List.set_cons_zero, List.set_cons_succ] at hH55
      refine RL.val rfl (run_assign (v := B _) rfl) ?_
      refine RL.nil ?_
      refine CW.seq ?_
      refine CW.region ?_
      refine RL.val rfl (run_ldA (cs := [_]) Try.underlying43 rfl rfl rfl (rangeAt_cells (hH55.blk (i := 0) rfl))) ?_
      refine RL.set hH55 (i := 2) rfl (run_stW rfl e6_31 rfl yv46.one (hH55.blk (i := 2) rfl) rfl) ?_
      intro w56 hH57
      simp only [List.set_cons_zero, List.set_cons_succ] at hH57
      refine RL.nil ?_
      refine CW.cutG (G := Unit) hH57 [4, 32, 33, 34, 35, 36, 37, 38, 39, 40, 41, 42, 43, 44, 45, 46, 47, 48, 49, 50, 51, 52, 53, 54, 55, 56, 57, 58, 59, 60, 61, 62, 63, 64, 65, 66, 67, 68, 69, 70, 71, 72, 73, 74, 75, 76, 77, 78, 79, 80, 81, 82, 83, 84, 85, 86] (fun (L : List Ent) (_u : Unit) => L) (fun (_u : Unit) s' => True) ?_ ?_
      · refine CW.seq ?_
        refine CW.regionD (by kernel_rfl) hH57 ?_
        intro w58 hH59
        refine AN.take 0 rfl rfl (by kernel_rfl) (by kernel_rfl) (by kernel_rfl) (hH59.sub (List.Sublist.refl _)) (fun w hS => run_move (v := B _) rfl) ?_
        refine AN.take 1 rfl rfl (by kernel_rfl) (by kernel_rfl) (by kernel_rfl) (hH59.sub (List.Sublist.refl _)) (fun w hS => run_not (bR (c := true) ((by rw [hxc]; exact doB_same _ _)))) ?_
        refine AN.take 2 rfl rfl (by kernel_rfl) (by kernel_rfl) (by kernel_rfl) (hH59.sub (List.Sublist.refl _)) (fun w hS => run_move (v := B _) rfl) ?_
        refine AN.takeG 3 rfl rfl rfl rfl (by kernel_rfl) (by kernel_rfl) (by kernel_rfl) (hH59.sub (List.Sublist.refl _)) (fun w hS => run_move e5_31) ?_
        refine AN.takeG 5 rfl rfl rfl rfl (by kernel_rfl) (by kernel_rfl) (by kernel_rfl) (hH59.sub (List.Sublist.refl _)) (fun w hS => run_ldA (cs := [_]) Try.underlying43 rfl rfl e6_31 (rangeAt_cells (hS.blk (i := 2) rfl))) ?_
        refine AN.one 4 (by kernel_rfl) ?_
        refine AO.callP rfl (gsome rfl rfl) rfl hH59 (List.Sublist.refl _) (m_Len (by omega) hF47 hH59 (fun x hx => (List.mem_cons_of_mem _ (List.mem_cons_of_mem _ (List.mem_cons_of_mem _ (List.mem_append_left _ hx)))))) (run_call1 Try.call16 rfl) ?_
        intro w60 hH61
        refine AN.one 6 (by kernel_rfl) ?_
        refine AO.callP rfl (gsome rfl rfl) rfl hH61 (List.Sublist.refl _) (c_clearanceref21_Now _ _ (yv46.mono (hH61.kz (Le.refl _) (fun x hx => (List.mem_cons_of_mem _ (List.mem_cons_of_mem _ (List.mem_cons_of_mem _ (List.mem_append_right _ hx)))))))) (run_call1 Try.call17 rfl) ?_
        intro w62 hH63
        refine AN.takeG 7 rfl rfl rfl rfl (by kernel_rfl) (by kernel_rfl) (by kernel_rfl) (hH63.sub (List.Sublist.refl _)) (fun w hS => run_lenSl ((yv46.now).mono (hS.kz (Le.refl _) (fun x hx => (List.mem_cons_of_mem _ (List.mem_cons_of_mem _ (List.mem_cons_of_mem _ (List.mem_append_right _ hx))))))).sl rfl Try.underlying37 rfl) ?_
        refine AN.takeG 8 rfl rfl rfl rfl (by kernel_rfl) (by kernel_rfl) (by kernel_rfl) (hH63.sub (List.Sublist.refl _)) (fun w hS => run_neq rfl rfl) ?_
        refine AN.take 9 rfl rfl (by kernel_rfl) (by kernel_rfl) (by kernel_rfl) (hH63.sub (List.Sublist.refl _)) (fun w hS => run_pickF rfl (v := B _) rfl) ?_
        refine AN.take 10 rfl rfl (by kernel_rfl) (by kernel_rfl) (by kernel_rfl) (hH63.sub (List.Sublist.refl _)) (fun w hS => run_move (v := B _) rfl) ?_
        refine AN.takeG 11 rfl rfl (bF ((fun h => h (by omega)))) rfl (by kernel_rfl) (by kernel_rfl) (by kernel_rfl) (hH63.sub (List.Sublist.refl _)) (fun w hS => run_move e5_31) ?_
        refine AN.takeG 13 rfl rfl (bF ((fun h => h (by omega)))) rfl (by kernel_rfl) (by kernel_rfl) (by kernel_rfl) (hH63.sub (List.Sublist.refl _)) (fun w hS => run_ldA (cs := [_]) Try.underlying43 rfl rfl e6_31 (rangeAt_cells (hS.blk (i := 2) rfl))) ?_
        refine AN.one 12 (by kernel_rfl) ?_
        refine AO.callP rfl (gsome rfl (bF ((fun h => h (by omega))))) rfl hH63 (List.Sublist.refl _) (m_Count hF47 hH63 (fun x hx => (List.mem_cons_of_mem _ (List.mem_cons_of_mem _ (List.mem_cons_of_mem _ (List.mem_append_left _ hx)))))) (run_call1 Try.call18 rfl) ?_
        intro w65 hH66
        refine AN.one 14 (by kernel_rfl) ?_
        refine AO.callP rfl (gsome rfl (bF ((fun h => h (by omega))))) rfl hH66 (List.Sublist.refl _) (c_clearanceref21_Count _ (by assumption) _ (yv46.mono (hH66.kz (Le.refl _) (fun x hx => (List.mem_cons_of_mem _ (List.mem_cons_of_mem _ (List.mem_cons_of_mem _ (List.mem_append_right _ hx)))))))) (run_call1 Try.call19 rfl) ?_
        intro w67 hH68
        refine AN.takeG 15 rfl rfl (bF ((fun h => h (by omega)))) rfl (by kernel_rfl) (by kernel_rfl) (by kernel_rfl) (hH68.sub (List.Sublist.refl _)) (fun w hS => run_neq rfl rfl) ?_
        refine AN.take 16 rfl rfl (by kernel_rfl) (by kernel_rfl) (by kernel_rfl) (hH68.sub (List.Sublist.refl _)) (fun w hS => run_pickF (bF ((fun h => h (by omega)))) (v := B _) rfl) ?_
        refine AN.take 17 rfl rfl (by kernel_rfl) (by kernel_rfl) (by kernel_rfl) (hH68.sub (List.Sublist.refl _)) (fun w hS => run_move (v := B _) rfl) ?_
        refine AN.takeG 18 rfl rfl (bF ((fun h => h (by rw [hyc]; omega)))) rfl (by kernel_rfl) (by kernel_rfl) (by kernel_rfl) (hH68.sub (List.Sublist.refl _)) (fun w hS => run_move e5_31) ?_
        refine AN.takeG 20 rfl rfl (bF ((fun h => h (by rw [hyc]; omega)))) rfl (by kernel_rfl) (by kernel_rfl) (by kernel_rfl) (hH68.sub (List.Sublist.refl _)) (fun w hS => run_fieldAddr Try.underlying43 rfl (off := 0) rfl Try.sizeOf41 (by decide) e6_31) ?_
        refine AN.takeG 21 rfl rfl (bF ((fun h => h (by rw [hyc]; omega)))) rfl (by kernel_rfl) (by kernel_rfl) (by kernel_rfl) (hH68.sub (List.Sublist.refl _)) (fun w hS => run_ld Try.underlying41 rfl rfl (hS.cell (i := 2) rfl rfl)) ?_
        refine AN.takeG 22 rfl rfl (bF ((fun h => h (by rw [hyc]; omega)))) rfl (by kernel_rfl) (by kernel_rfl) (by kernel_rfl) (hH68.sub (List.Sublist.refl _)) (fun w hS => run_lenSl ((yv46.sl0).mono (hS.kz (Le.refl _) (fun x hx => (List.mem_cons_of_mem _ (List.mem_cons_of_mem _ (List.mem_cons_of_mem _ (List.mem_append_right _ hx))))))).sl rfl Try.underlying41 rfl) ?_
        refine AN.takeG 23 rfl rfl (bF ((fun h => h (by rw [hyc]; omega)))) rfl (by kernel_rfl) (by kernel_rfl) (by kernel_rfl) (hH68.sub (List.Sublist.refl _)) (fun w hS => run_sub rfl rfl (by omega)) ?_
        refine AN.one 19 (by kernel_rfl) ?_
        refine AO.callP rfl (gsome rfl (bF ((fun h => h (by rw [hyc]; omega))))) rfl hH68 (List.Sublist.refl _) (m_Mark hF47 hH68 (fun x hx => (List.mem_cons_of_mem _ (List.mem_cons_of_mem _ (List.mem_cons_of_mem _ (List.mem_append_left _ hx)))))) (run_call1 Try.call20 rfl) ?_
        intro w70 hH71
        refine AN.takeG 24 rfl rfl (bF ((fun h => h (by rw [hyc]; omega)))) rfl (by kernel_rfl) (by kernel_rfl) (by kernel_rfl) (hH71.sub (List.Sublist.refl _)) (fun w hS => run_neq rfl rfl) ?_
        refine AN.take 25 rfl rfl (by kernel_rfl) (by kernel_rfl) (by kernel_rfl) (hH71.sub (List.Sublist.refl _)) (fun w hS => run_pickF (bF ((fun h => h (by rw [hyc]; omega)))) (v := B _) rfl) ?_
        refine AN.take 26 rfl rfl (by kernel_rfl) (by kernel_rfl) (by kernel_rfl) (hH71.sub (List.Sublist.refl _)) (fun w hS => run_move (v := B _) rfl) ?_
        refine AN.takeG 27 rfl rfl (bF ((fun h => h (by omega)))) rfl (by kernel_rfl) (by kernel_rfl) (by kernel_rfl) (hH71.sub (List.Sublist.refl _)) (fun w hS => run_move e5_31) ?_
        refine AN.takeG 28 rfl rfl (bF ((fun h => h (by omega)))) rfl (by kernel_rfl) (by kernel_rfl) (by kernel_rfl) (hH71.sub (List.Sublist.refl _)) (fun w hS => run_move e1_31) ?_
        refine AN.takeG 30 rfl rfl (bF ((fun h => h (by omega)))) rfl (by kernel_rfl) (by kernel_rfl) (by kernel_rfl) (hH71.sub (List.Sublist.refl _)) (fun w hS => run_ldA (cs := [_]) Try.underlying43 rfl rfl e6_31 (rangeAt_cells (hS.blk (i := 2) rfl))) ?_
        refine AN.takeG 31 rfl rfl (bF ((fun h => h (by omega)))) rfl (by kernel_rfl) (by kernel_rfl) (by kernel_rfl) (hH71.sub (List.Sublist.refl _)) (fun w hS => run_move e1_31) ?_
        refine AN.one 29 (by kernel_rfl) ?_
        refine AO.callP rfl (gsome rfl (bF ((fun h => h (by omega))))) rfl hH71 (List.Sublist.refl _) (m_Find _ (by omega) hF47 hH71 (fun x hx => (List.mem_cons_of_mem _ (List.mem_cons_of_mem _ (List.mem_cons_of_mem _ (List.mem_append_left _ hx)))))) (run_call2 Try.call11 rfl rfl) ?_
        intro w73 hH74
        refine AN.one 32 (by kernel_rfl) ?_
        refine AO.callP rfl (gsome rfl (bF ((fun h => h (by omega))))) rfl hH74 (List.Sublist.refl _) (c_clearanceref21_Find _ _ _ (yv46.mono (hH74.kz (Le.refl _) (fun x hx => (List.mem_cons_of_mem _ (List.mem_cons_of_mem _ (List.mem_cons_of_mem _ (List.mem_append_right _ hx)))))))) (run_call2 Try.call21 rfl rfl) ?_
        intro w75 hH76
        refine AN.takeG 33 rfl rfl (bF ((fun h => h (by omega)))) rfl (by kernel_rfl) (by kernel_rfl) (by kernel_rfl) (hH76.sub (List.Sublist.refl _)) (fun w hS => run_neq rfl rfl) ?_
        refine AN.take 34 rfl rfl (by kernel_rfl) (by kernel_rfl) (by kernel_rfl) (hH76.sub (List.Sublist.refl _)) (fun w hS => run_pickF (bF ((fun h => h (by omega)))) (v := B _) rfl) ?_
        refine AN.take 35 rfl rfl (by kernel_rfl) (by kernel_rfl) (by kernel_rfl) (hH76.sub (List.Sublist.refl _)) (fun w hS => run_move (v := B _) rfl) ?_
        refine AN.takeG 36 rfl rfl (bF ((fun h => h (by rw [hyc])))) rfl (by kernel_rfl) (by kernel_rfl) (by kernel_rfl) (hH76.sub (List.Sublist.refl _)) (fun w hS => run_move e1_31) ?_
        refine AN.takeG 37 rfl rfl (bF ((fun h => h (by rw [hyc])))) rfl (by kernel_rfl) (by kernel_rfl) (by kernel_rfl) (hH76.sub (List.Sublist.refl _)) (fun w hS => run_geq rfl rfl) ?_
        refine AN.takeG 38 rfl rfl (bF ((fun h => h (by rw [hyc])))) rfl (by kernel_rfl) (by kernel_rfl) (by kernel_rfl) (hH76.sub (List.Sublist.refl _)) (fun w hS => run_move (v := B _) rfl) ?_
        refine AN.splitP (dj := 70) rfl (fun h79 => ?_) (fun h79 => ?_)
        · refine AN.takeG 39 rfl rfl (bT h79) rfl (by kernel_rfl) (by kernel_rfl) (by kernel_rfl) (hH76.sub (List.Sublist.refl _)) (fun w hS => run_move e1_31) ?_
          refine AN.takeG 40 rfl rfl (bT h79) rfl (by kernel_rfl) (by kernel_rfl) (by kernel_rfl) (hH76.sub (List.Sublist.refl _)) (fun w hS => run_move e5_31) ?_
          refine AN.one 41 (by kernel_rfl) ?_
          refine AO.callP rfl (gsome rfl (bT h79)) rfl hH76 (List.Sublist.refl _) (m_Len (by omega) hF47 hH76 (fun x hx => (List.mem_cons_of_mem _ (List.mem_cons_of_mem _ (List.mem_cons_of_mem _ (List.mem_append_left _ hx)))))) (run_call1 Try.call16 rfl) ?_
          intro w80 hH81
          refine AN.takeG 42 rfl rfl (bT h79) rfl (by kernel_rfl) (by kernel_rfl) (by kernel_rfl) (hH81.sub (List.Sublist.refl _)) (fun w hS => run_lss rfl rfl) ?_
          refine AN.takeG 43 rfl rfl (bF ((fun h => h (by rw [hyc])))) rfl (by kernel_rfl) (by kernel_rfl) (by kernel_rfl) (hH81.sub (List.Sublist.refl _)) (fun w hS => run_pickT (bT h79) (v := B _) rfl) ?_
          refine AN.takeG 44 rfl rfl (bF ((fun h => h (by rw [hyc])))) rfl (by kernel_rfl) (by kernel_rfl) (by kernel_rfl) (hH81.sub (List.Sublist.refl _)) (fun w hS => run_move (v := B _) rfl) ?_
          refine AN.splitP (dj := 76) rfl (fun h83 => ?_) (fun h83 => ?_)
          · refine AN.takeG 45 rfl rfl (bT h83) rfl (by kernel_rfl) (by kernel_rfl) (by kernel_rfl) (hH81.sub (List.Sublist.refl _)) (fun w hS => run_move e5_31) ?_
            refine AN.takeG 46 rfl rfl (bT h83) rfl (by kernel_rfl) (by kernel_rfl) (by kernel_rfl) (hH81.sub (List.Sublist.refl _)) (fun w hS => run_move e1_31) ?_
            refine AN.takeG 48 rfl rfl (bT h83) rfl (by kernel_rfl) (by kernel_rfl) (by kernel_rfl) (hH81.sub (List.Sublist.refl _)) (fun w hS => run_ldA (cs := [_]) Try.underlying43 rfl rfl e6_31 (rangeAt_cells (hS.blk (i := 2) rfl))) ?_
            refine AN.takeG 49 rfl rfl (bT h83) rfl (by kernel_rfl) (by kernel_rfl) (by kernel_rfl) (hH81.sub (List.Sublist.refl _)) (fun w hS => run_move e1_31) ?_
            refine AN.one 47 (by kernel_rfl) ?_
            refine AO.callR rfl (gsome rfl (bT h83)) rfl hH81 (List.Sublist.refl _) (m_Class _ (by omega) hF47 hH81 (fun x hx => (List.mem_cons_of_mem _ (List.mem_cons_of_mem _ (List.mem_cons_of_mem _ (List.mem_append_left _ hx)))))) (run_call2 Try.call23 rfl rfl) ?_
            intro v86 w84 hH85
            refine AN.one 50 (by kernel_rfl) ?_
            refine AO.callR rfl (gsome rfl (bT h83)) rfl hH85 (.cons _ (List.Sublist.refl _)) (c_clearanceref21_Class _ _ (by assumption) _ (yv46.mono (hH85.kz (Le.refl _) (fun x hx => (List.mem_cons_of_mem _ (List.mem_cons_of_mem _ (List.mem_cons_of_mem _ (List.mem_cons_of_mem _ (List.mem_append_right _ hx))))))))) (run_call2 Try.call24 rfl rfl) ?_
            intro v89 w87 hH88
            refine AN.one 51 (by kernel_rfl) ?_
            refine AO.callP rfl (gsome rfl (bT h83)) rfl hH88 (.cons _ (.cons _ (List.Sublist.refl _))) (c_clearanceref01_Ints _ _ _ _  _ (hH88.sl (i := 1) rfl) (hH88.sl (i := 0) rfl)) (run_call2 Try.call22 rfl rfl) ?_
            intro w90 hH91
            refine AN.takeG 52 rfl rfl (bT h83) rfl (by kernel_rfl) (by kernel_rfl) (by kernel_rfl) (hH91.sub (.cons _ (.cons _ (List.Sublist.refl _)))) (fun w hS => run_not (bT ((by rw [hyc])))) ?_
            refine AN.takeG 53 rfl rfl (bF ((fun h => h (by rw [hyc])))) rfl (by kernel_rfl) (by kernel_rfl) (by kernel_rfl) (hH91.sub (.cons _ (.cons _ (List.Sublist.refl _)))) (fun w hS => run_pickT (bT h83) (v := B _) rfl) ?_
            refine AN.take 54 rfl rfl (by kernel_rfl) (by kernel_rfl) (by kernel_rfl) (hH91.sub (.cons _ (.cons _ (List.Sublist.refl _)))) (fun w hS => run_pickF (bF ((fun h => h (by rw [hyc])))) (v := B _) rfl) ?_
            refine AN.done (by kernel_rfl) ?_
            refine CW.condF rfl ?_
            refine CW.skip ?_
            refine ⟨((((((((((((((((((((((((((((((((((((((((((((((((((((((((Fr.refl _ _)).u rfl).u rfl).u rfl).u rfl).u rfl).u rfl).u rfl).u rfl).u rfl).u rfl).u rfl).u rfl).u rfl).u rfl).u rfl).u rfl).u rfl).u rfl).u rfl).u rfl).u rfl).u rfl).u rfl).u rfl).u rfl).u rfl).u rfl).u rfl).u rfl).u rfl).u rfl).u rfl).u rfl).u rfl).u rfl).u rfl).u rfl).u rfl).u rfl).u rfl).u rfl).u rfl).u rfl).u rfl).u rfl).u rfl).u rfl).u rfl).u rfl).u rfl).u rfl).u rfl).u rfl).u rfl).u rfl, (), (hH91.sub (.cons _ (.cons _ (List.Sublist.refl _)))), trivial⟩
          · refine AN.skipG 45 rfl rfl (bF h83) rfl rfl (by kernel_rfl) (by kernel_rfl) (by kernel_rfl) (hH81.sub (List.Sublist.refl _)) ?_
            refine AN.skipG 46 rfl rfl (bF h83) rfl rfl (by kernel_rfl) (by kernel_rfl) (by kernel_rfl) (hH81.sub (List.Sublist.refl _)) ?_
            refine AN.skipG 47 rfl rfl (bF h83) rfl rfl (by kernel_rfl) (by kernel_rfl) (by kernel_rfl) (hH81.sub (List.Sublist.refl _)) ?_
            refine AN.skipG 48 rfl rfl (bF h83) rfl rfl (by kernel_rfl) (by kernel_rfl) (by kernel_rfl) (hH81.sub (List.Sublist.refl _)) ?_
            refine AN.skipG 49 rfl rfl (bF h83) rfl rfl (by kernel_rfl) (by kernel_rfl) (by kernel_rfl) (hH81.sub (List.Sublist.refl _)) ?_
            refine AN.skipG 50 rfl rfl (bF h83) rfl rfl (by kernel_rfl) (by kernel_rfl) (by kernel_rfl) (hH81.sub (List.Sublist.refl _)) ?_
            refine AN.skipG 51 rfl rfl (bF h83) rfl rfl (by kernel_rfl) (by kernel_rfl) (by kernel_rfl) (hH81.sub (List.Sublist.refl _)) ?_
            refine AN.skipG 52 rfl rfl (bF h83) rfl rfl (by kernel_rfl) (by kernel_rfl) (by kernel_rfl) (hH81.sub (List.Sublist.refl _)) ?_
            refine AN.takeG 53 rfl rfl (bF ((fun h => h (by rw [hyc])))) rfl (by kernel_rfl) (by kernel_rfl) (by kernel_rfl) (hH81.sub (List.Sublist.refl _)) (fun w hS => run_pickF (bF h83) (v := B false) rfl) ?_
            refine AN.take 54 rfl rfl (by kernel_rfl) (by kernel_rfl) (by kernel_rfl) (hH81.sub (List.Sublist.refl _)) (fun w hS => run_pickF (bF ((fun h => h (by rw [hyc])))) (v := B _) rfl) ?_
            refine AN.done (by kernel_rfl) ?_
            refine CW.condF rfl ?_
            refine CW.skip ?_
            refine ⟨((((((((((((((((((((((((((((((((((((((((((((((((((((((((Fr.refl _ _)).u rfl).u rfl).u rfl).u rfl).u rfl).u rfl).u rfl).u rfl).u rfl).u rfl).u rfl).u rfl).u rfl).u rfl).u rfl).u rfl).u rfl).u rfl).u rfl).u rfl).u rfl).u rfl).u rfl).u rfl).u rfl).u rfl).u rfl).u rfl).u rfl).u rfl).u rfl).u rfl).u rfl).u rfl).u rfl).u rfl).u rfl).u rfl).u rfl).u rfl).u rfl).u rfl).u rfl).u rfl).u rfl).u rfl).u rfl).u rfl).u rfl).u rfl).u rfl).u rfl).u rfl).u rfl).u rfl, (), hH81, trivial⟩
        · refine AN.skipG 39 rfl rfl (bF h79) rfl rfl (by kernel_rfl) (by kernel_rfl) (by kernel_rfl) (hH76.sub (List.Sublist.refl _)) ?_
          refine AN.skipG 40 rfl rfl (bF h79) rfl rfl (by kernel_rfl) (by kernel_rfl) (by kernel_rfl) (hH76.sub (List.Sublist.refl _)) ?_
          refine AN.skipG 41 rfl rfl (bF h79) rfl rfl (by kernel_rfl) (by kernel_rfl) (by kernel_rfl) (hH76.sub (List.Sublist.refl _)) ?_
          refine AN.skipG 42 rfl rfl (bF h79) rfl rfl (by kernel_rfl) (by kernel_rfl) (by kernel_rfl) (hH76.sub (List.Sublist.refl _)) ?_
          refine AN.takeG 43 rfl rfl (bF ((fun h => h (by rw [hyc])))) rfl (by kernel_rfl) (by kernel_rfl) (by kernel_rfl) (hH76.sub (List.Sublist.refl _)) (fun w hS => run_pickF (bF h79) (v := B false) rfl) ?_
          refine AN.takeG 44 rfl rfl (bF ((fun h => h (by rw [hyc])))) rfl (by kernel_rfl) (by kernel_rfl) (by kernel_rfl) (hH76.sub (List.Sublist.refl _)) (fun w hS => run_move (v := B _) rfl) ?_
          refine AN.skipG 45 rfl rfl rfl rfl rfl (by kernel_rfl) (by kernel_rfl) (by kernel_rfl) (hH76.sub (List.Sublist.refl _)) ?_
          refine AN.skipG 46 rfl rfl rfl rfl rfl (by kernel_rfl) (by kernel_rfl) (by kernel_rfl) (hH76.sub (List.Sublist.refl _)) ?_
          refine AN.skipG 47 rfl rfl rfl rfl rfl (by kernel_rfl) (by kernel_rfl) (by kernel_rfl) (hH76.sub (List.Sublist.refl _)) ?_
          refine AN.skipG 48 rfl rfl rfl rfl rfl (by kernel_rfl) (by kernel_rfl) (by kernel_rfl) (hH76.sub (List.Sublist.refl _)) ?_
          refine AN.skipG 49 rfl rfl rfl rfl rfl (by kernel_rfl) (by kernel_rfl) (by kernel_rfl) (hH76.sub (List.Sublist.refl _)) ?_
          refine AN.skipG 50 rfl rfl rfl rfl rfl (by kernel_rfl) (by kernel_rfl) (by kernel_rfl) (hH76.sub (List.Sublist.refl _)) ?_
          refine AN.skipG 51 rfl rfl rfl rfl rfl (by kernel_rfl) (by kernel_rfl) (by kernel_rfl) (hH76.sub (List.Sublist.refl _)) ?_
          refine AN.skipG 52 rfl rfl rfl rfl rfl (by kernel_rfl) (by kernel_rfl) (by kernel_rfl) (hH76.sub (List.Sublist.refl _)) ?_
          refine AN.takeG 53 rfl rfl (bF ((fun h => h (by rw [hyc])))) rfl (by kernel_rfl) (by kernel_rfl) (by kernel_rfl) (hH76.sub (List.Sublist.refl _)) (fun w hS => run_pickF rfl (v := B false) rfl) ?_
          refine AN.take 54 rfl rfl (by kernel_rfl) (by kernel_rfl) (by kernel_rfl) (hH76.sub (List.Sublist.refl _)) (fun w hS => run_pickF (bF ((fun h => h (by rw [hyc])))) (v := B _) rfl) ?_
          refine AN.done (by kernel_rfl) ?_
          refine CW.condF rfl ?_
          refine CW.skip ?_
          refine ⟨((((((((((((((((((((((((((((((((((((((((((((((((((((((((Fr.refl _ _)).u rfl).u rfl).u rfl).u rfl).u rfl).u rfl).u rfl).u rfl).u rfl).u rfl).u rfl).u rfl).u rfl).u rfl).u rfl).u rfl).u rfl).u rfl).u rfl).u rfl).u rfl).u rfl).u rfl).u rfl).u rfl).u rfl).u rfl).u rfl).u rfl).u rfl).u rfl).u rfl).u rfl).u rfl).u rfl).u rfl).u rfl).u rfl).u rfl).u rfl).u rfl).u rfl).u rfl).u rfl).u rfl).u rfl).u rfl).u rfl).u rfl).u rfl).u rfl).u rfl).u rfl).u rfl).u rfl, (), hH76, trivial⟩
      · rintro _u sg94 w94 fr94 hH94 -
        have e1_94 := (fr94 1 rfl).trans e1_31
        have e5_94 := (fr94 5 rfl).trans e5_31
        have e6_94 := (fr94 6 rfl).trans e6_31
        have e8_94 : sg94 8 = .pointer (some ⟨_, _, none⟩) := (fr94 8 rfl).trans rfl
        have e9_94 : sg94 9 = .pointer (some ⟨_, _, none⟩) := (fr94 9 rfl).trans rfl
        have e10_94 : sg94 10 = B _ := (fr94 10 rfl).trans rfl
        have e18_94 := (fr94 18 rfl).trans e18_31
        have e19_94 := (fr94 19 rfl).trans e19_31
        have e20_94 := (fr94 20 rfl).trans e20_31
        have e21_94 := (fr94 21 rfl).trans (by conv => lhs; whnf)
        have e22_94 : sg94 22 = .pointer (some ⟨_, _, none⟩) := (fr94 22 rfl).trans rfl
        have e23_94 : sg94 23 = .agg _ := (fr94 23 rfl).trans rfl
        have e24_94 := (fr94 24 rfl).trans (by conv => lhs; whnf)
        have e25_94 : sg94 25 = .pointer (some ⟨_, _, none⟩) := (fr94 25 rfl).trans rfl
        have e26_94 : sg94 26 = .agg _ := (fr94 26 rfl).trans rfl
        have e27_94 : sg94 27 = .agg _ := (fr94 27 rfl).trans rfl
        have e28_94 := (fr94 28 rfl).trans (by conv => lhs; whnf)
        have e29_94 : sg94 29 = .agg _ := (fr94 29 rfl).trans rfl
        have e30_94 : sg94 30 = B _ := (fr94 30 rfl).trans rfl
        have e31_94 : sg94 31 = .agg _ := (fr94 31 rfl).trans rfl
        refine CW.seq ?_
        refine CW.region ?_
        refine RL.val rfl (run_move e5_94) ?_
        refine RL.callP rfl hH94 (m_Len (by omega) hF47 hH94 (fun x hx => (List.mem_cons_of_mem _ (List.mem_cons_of_mem _ (List.mem_cons_of_mem _ (List.mem_append_left _ hx)))))) (run_call1 Try.call16 rfl) ?_
        intro w95 hH96
        refine RL.val rfl (run_move (v := I 0) rfl) ?_
        refine RL.nil ?_
        refine CW.block ?_
        refine CW.loop (G := (Int)) (fun (q : Int) s' w' => (Fr [4, 11, 89, 90, 91, 92, 93, 94, 95, 96, 97, 98, 99] _ s') ∧ (Hp w w' _) ∧ (s' 89 = I q) ∧ (0 ≤ q)) (fun (q : Int) => ((nowC (stepC cs (l.getD k.toNat op0))).length - q).toNat) (0) ⟨Fr.refl _ _, hH96, rfl, (by omega)⟩ ?_
        rintro q sg97 w97 ⟨fr97, hH97, e89_97, q0⟩
        have e1_97 := (fr97 1 rfl).trans e1_94
        have e5_97 := (fr97 5 rfl).trans e5_94
        have e6_97 := (fr97 6 rfl).trans e6_94
        have e8_97 := (fr97 8 rfl).trans e8_94
        have e9_97 := (fr97 9 rfl).trans e9_94
        have e10_97 := (fr97 10 rfl).trans e10_94
        have e18_97 := (fr97 18 rfl).trans e18_94
        have e19_97 := (fr97 19 rfl).trans e19_94
        have e20_97 := (fr97 20 rfl).trans e20_94
        have e21_97 := (fr97 21 rfl).trans e21_94
        have e22_97 := (fr97 22 rfl).trans e22_94
        have e23_97 := (fr97 23 rfl).trans e23_94
        have e24_97 := (fr97 24 rfl).trans e24_94
        have e25_97 := (fr97 25 rfl).trans e25_94
        have e26_97 := (fr97 26 rfl).trans e26_94
        have e27_97 := (fr97 27 rfl).trans e27_94
        have e28_97 := (fr97 28 rfl).trans e28_94
        have e29_97 := (fr97 29 rfl).trans e29_94
        have e30_97 := (fr97 30 rfl).trans e30_94
        have e31_97 := (fr97 31 rfl).trans e31_94
        have e87_97 : sg97 87 = .pointer (some ⟨_, _, none⟩) := (fr97 87 rfl).trans rfl
        have e88_97 : sg97 88 = I _ := (fr97 88 rfl).trans rfl
        refine CW.seq ?_
        refine CW.region ?_
        refine RL.val rfl (run_lss e89_97 e88_97) ?_
        refine RL.nil ?_
        refine CW.seq ?_
        refine CW.condP rfl (fun h99 => ?_) (fun h99 => ?_)
        · refine CW.skip ?_
          refine CW.seq ?_
          refine CW.block ?_
          refine CW.seq ?_
          refine CW.region ?_
          refine RL.val rfl (run_move e89_97) ?_
          refine RL.val rfl (run_assign (v := I _) rfl) ?_
          refine RL.nil ?_
          refine CW.seq ?_
          refine CW.regionD (by kernel_rfl) hH97 ?_
          intro w100 hH101
          refine AN.take 0 rfl rfl (by kernel_rfl) (by kernel_rfl) (by kernel_rfl) (hH101.sub (List.Sublist.refl _)) (fun w hS => run_move e5_97) ?_
          refine AN.take 1 rfl rfl (by kernel_rfl) (by kernel_rfl) (by kernel_rfl) (hH101.sub (List.Sublist.refl _)) (fun w hS => run_move (v := I _) rfl) ?_
          refine AN.take 3 rfl rfl (by kernel_rfl) (by kernel_rfl) (by kernel_rfl) (hH101.sub (List.Sublist.refl _)) (fun w hS => run_ldA (cs := [_]) Try.underlying43 rfl rfl e6_97 (rangeAt_cells (hS.blk (i := 2) rfl))) ?_
          refine AN.take 4 rfl rfl (by kernel_rfl) (by kernel_rfl) (by kernel_rfl) (hH101.sub (List.Sublist.refl _)) (fun w hS => run_move (v := I _) rfl) ?_
          refine AN.one 2 (by kernel_rfl) ?_
          refine AO.callP rfl gnone rfl hH101 (List.Sublist.refl _) (m_Find _ (by omega) hF47 hH101 (fun x hx => (List.mem_cons_of_mem _ (List.mem_cons_of_mem _ (List.mem_cons_of_mem _ (List.mem_append_left _ hx)))))) (run_call2 Try.call11 rfl rfl) ?_
          intro w102 hH103
          refine AN.one 5 (by kernel_rfl) ?_
          refine AO.callP rfl gnone rfl hH103 (List.Sublist.refl _) (c_clearanceref21_Find _ _ _ (yv46.mono (hH103.kz (Le.refl _) (fun x hx => (List.mem_cons_of_mem _ (List.mem_cons_of_mem _ (List.mem_cons_of_mem _ (List.mem_append_right _ hx)))))))) (run_call2 Try.call21 rfl rfl) ?_
          intro w104 hH105
          refine AN.take 6 rfl rfl (by kernel_rfl) (by kernel_rfl) (by kernel_rfl) (hH105.sub (List.Sublist.refl _)) (fun w hS => run_neq rfl rfl) ?_
          refine AN.done (by kernel_rfl) ?_
          refine CW.condF (bF ((fun h => h (by rw [hyc])))) ?_
          refine CW.skip ?_
          refine CW.region ?_
          refine RL.val rfl (run_add e89_97 rfl (by omega)) ?_
          refine RL.val rfl (run_move (v := I _) rfl) ?_
          refine RL.nil ?_
          refine ⟨q + 1, ?_, (((((((((((fr97.u rfl).u rfl).u rfl).u rfl).u rfl).u rfl).u rfl).u rfl).u rfl).u rfl).u rfl).u rfl, hH105, (congrArg I (by rfl)), ?_⟩
          · ((try dsimp only); omega)
          · omega
        · refine CW.exit (id := 2) rfl ?_
          refine CW.region ?_
          refine RL.val rfl (run_add e20_97 rfl (by omega)) ?_
          refine RL.val rfl (run_move (v := I _) rfl) ?_
          refine RL.nil ?_
          refine ⟨(k + 1, (stepC cs (l.getD k.toNat op0)), y41, (Z42 ++ (z43 ++ Zv))), ?_, (((((((((((((((((((((((fr31.u rfl).u rfl).u rfl).u rfl).u rfl).u rfl).u rfl).u rfl).u rfl).u rfl).u rfl).u rfl).u rfl).u rfl).t fr94 rfl)).u rfl).u rfl).u rfl).t fr97 rfl)).u rfl).u rfl).u rfl, (Hp.conv (hH97.sub (.cons _ (.cons _ (List.Sublist.refl _)))) (by rfl)), (congrArg I (by rfl)), ?_, ?_, ?_⟩
          · ((try dsimp only); omega)
          · omega
          · omega
          · exact ⟨_, _, rfl, hF47.more (by omega), yv46, hyc⟩
    · refine CW.exit (id := 0) rfl ?_
      refine CW.seq ?_
      refine CW.region ?_
      refine RL.val rfl (run_move e1_31) ?_
      refine RL.val rfl (run_geq rfl rfl) ?_
      refine RL.val rfl (run_move (v := B _) rfl) ?_
      refine RL.splitP (dj := 103) rfl (fun h108 => ?_) (fun h108 => ?_)
      · refine RL.gT rfl (bT h108) ?_
        refine RL.val rfl (run_move e1_31) ?_
        refine RL.gT rfl (bT h108) ?_
        refine RL.val rfl (run_move e5_31) ?_
        refine RL.gT rfl (bT h108) ?_
        refine RL.callP rfl hH31 (m_Len (by omega) hF hH31 (fun x hx => (List.mem_cons_of_mem _ (List.mem_append_left _ hx)))) (run_call1 Try.call16 rfl) ?_
        intro w109 hH110
        refine RL.gT rfl (bT h108) ?_
        refine RL.val rfl (run_lss rfl rfl) ?_
        refine RL.val rfl (run_pickT (bT h108) (v := B _) rfl) ?_
        refine RL.val rfl (run_move (v := B _) rfl) ?_
        refine RL.splitP (dj := 109) rfl (fun h112 => ?_) (fun h112 => ?_)
        · refine RL.gF rfl rfl (bT h112) rfl ?_
          refine RL.gF rfl rfl (bT h112) rfl ?_
          refine RL.gF rfl rfl (bT h112) rfl ?_
          refine RL.gF rfl rfl (bT h112) rfl ?_
          refine RL.gF rfl rfl (bT h112) rfl ?_
          refine RL.val rfl (run_pickT (bT h112) (v := B true) rfl) ?_
          refine RL.val rfl (run_move (v := B _) rfl) ?_
          refine RL.gT rfl rfl ?_
          refine RL.callP rfl hH110 (c_clearancelaw21_alive   _) (run_call0 Try.call7) ?_
          intro w113 hH114
          refine RL.val rfl (run_pickT rfl (v := B _) rfl) ?_
          refine RL.val rfl (run_assign (v := B _) rfl) ?_
          refine RL.nil ?_
          refine CW.ret ?_
          refine outP1 Try.results4 (congrArg B ?_) hH114.below
          rfl
        · refine RL.gT rfl (bF h112) ?_
          refine RL.val rfl (run_move e5_31) ?_
          refine RL.gT rfl (bF h112) ?_
          refine RL.val rfl (run_move e1_31) ?_
          refine RL.gT rfl (bF h112) ?_
          refine RL.callR rfl hH110 (m_Class _ (by omega) hF hH110 (fun x hx => (List.mem_cons_of_mem _ (List.mem_append_left _ hx)))) (run_call2 Try.call23 rfl rfl) ?_
          intro v118 w116 hH117
          refine RL.gT rfl (bF h112) ?_
          refine RL.val rfl (run_lenSl (hH117.sl (i := 0) rfl) rfl Try.underlying37 rfl) ?_
          refine RL.gT rfl (bF h112) ?_
          refine RL.val rfl (run_eql rfl rfl) ?_
          refine RL.val rfl (run_pickF (bF h112) (v := B _) rfl) ?_
          refine RL.val rfl (run_move (v := B _) rfl) ?_
          refine RL.gT rfl (bT ((by rw [classI, if_neg (by omega)]; rfl))) ?_
          refine RL.callP rfl hH117 (c_clearancelaw21_alive   _) (run_call0 Try.call7) ?_
          intro w120 hH121
          refine RL.val rfl (run_pickT (bT ((by rw [classI, if_neg (by omega)]; rfl))) (v := B _) rfl) ?_
          refine RL.val rfl (run_assign (v := B _) rfl) ?_
          refine RL.nil ?_
          refine CW.ret ?_
          refine outP1 Try.results4 (congrArg B ?_) hH121.below
          rfl
      · refine RL.gF rfl rfl (bF h108) rfl ?_
        refine RL.gF rfl rfl (bF h108) rfl ?_
        refine RL.gF rfl rfl (bF h108) rfl ?_
        refine RL.gF rfl rfl (bF h108) rfl ?_
        refine RL.val rfl (run_pickF (bF h108) (v := B false) rfl) ?_
        refine RL.val rfl (run_move (v := B _) rfl) ?_
        refine RL.gT rfl rfl ?_
        refine RL.val rfl (run_move e5_31) ?_
        refine RL.gT rfl rfl ?_
        refine RL.val rfl (run_move e1_31) ?_
        refine RL.gT rfl rfl ?_
        refine RL.callR rfl hH31 (m_Class _ (by omega) hF hH31 (fun x hx => (List.mem_cons_of_mem _ (List.mem_append_left _ hx)))) (run_call2 Try.call23 rfl rfl) ?_
        intro v125 w123 hH124
        refine RL.gT rfl rfl ?_
        refine RL.val rfl (run_lenSl (hH124.sl (i := 0) rfl) rfl Try.underlying37 rfl) ?_
        refine RL.gT rfl rfl ?_
        refine RL.val rfl (run_eql rfl rfl) ?_
        refine RL.val rfl (run_pickF rfl (v := B _) rfl) ?_
        refine RL.val rfl (run_move (v := B _) rfl) ?_
        refine RL.gT rfl (bT ((by rw [classI, if_neg (by omega)]; rfl))) ?_
        refine RL.callP rfl hH124 (c_clearancelaw21_alive   _) (run_call0 Try.call7) ?_
        intro w127 hH128
        refine RL.val rfl (run_pickT (bT ((by rw [classI, if_neg (by omega)]; rfl))) (v := B _) rfl) ?_
        refine RL.val rfl (run_assign (v := B _) rfl) ?_
        refine RL.nil ?_
        refine CW.ret ?_
        refine outP1 Try.results4 (congrArg B ?_) hH128.below
        rfl
end Go.Proofs.Ytphknfjaellkjaa.W
