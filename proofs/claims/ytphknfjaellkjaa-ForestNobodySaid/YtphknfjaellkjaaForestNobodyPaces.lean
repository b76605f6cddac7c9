/-
  The walks of the functions that the laws of this seat reach, part 2: each returns what its plain counterpart tells, and turns nothing that was there.
-/
import Derived.Test.YtphknfjaellkjaaProg
import Derived.Test.YtphknfjaellkjaaEnv
import Derived.Test.YtphknfjaellkjaaPlain
import Derived.Test.YtphknfjaellkjaaBase
import Derived.WalkKit
import Derived.Ground.NamesProg
import Derived.Shelf.Slices.In.SortNone
import Derived.Sort.EveryDepth
import Derived.Sort.OwnSortedInts
import Derived.Test.YtphknfjaellkjaaOrd
import Derived.Test.YtphknfjaellkjaaRel
import Derived.Test.YtphknfjaellkjaaClo
import Derived.Test.YtphknfjaellkjaaCov
import Derived.Test.YtphknfjaellkjaaArr
import Derived.Test.YtphknfjaellkjaaHas
import Derived.Test.YtphknfjaellkjaaStr
import Derived.Test.YtphknfjaellkjaaVu
import Derived.Test.YtphknfjaellkjaaGrd
import Derived.Test.YtphknfjaellkjaaShp
import Derived.Test.YtphknfjaellkjaaShq
import Derived.Test.YtphknfjaellkjaaShr
import Derived.Test.YtphknfjaellkjaaCut
import Derived.Test.YtphknfjaellkjaaRec
import Derived.Test.YtphknfjaellkjaaScp
import Derived.Test.YtphknfjaellkjaaByt
import Derived.Test.YtphknfjaellkjaaNod
import Derived.Test.YtphknfjaellkjaaSpl
import Derived.Test.YtphknfjaellkjaaSpt
import Derived.Test.YtphknfjaellkjaaSpn
import Derived.Test.YtphknfjaellkjaaSpx
import Derived.Test.YtphknfjaellkjaaSpy
import Derived.Test.YtphknfjaellkjaaAsn
import Derived.Test.YtphknfjaellkjaaAsp
import Derived.Test.YtphknfjaellkjaaMk
import Derived.Test.YtphknfjaellkjaaAsr
import Derived.Test.YtphknfjaellkjaaAst
import Derived.Test.YtphknfjaellkjaaGap
import Derived.Test.YtphknfjaellkjaaFst
import Derived.Test.YtphknfjaellkjaaFsu
import Derived.Test.YtphknfjaellkjaaFsv
import Derived.Test.YtphknfjaellkjaaFsx
import Derived.Test.YtphknfjaellkjaaCel
import Derived.Test.YtphknfjaellkjaaFsw
import Derived.Test.YtphknfjaellkjaaFor
import Derived.Test.YtphknfjaellkjaaFov
import Derived.Test.YtphknfjaellkjaaRch
import Derived.Test.YtphknfjaellkjaaForestNobodyPacesA
namespace Go.Proofs.Ytphknfjaellkjaa.W
open Go Go.RowKit Go.Proofs.Ytphknfjaellkjaa.E Go.Proofs.Ytphknfjaellkjaa.M
set_option linter.unusedVariables false
set_option linter.unusedSimpArgs false
set_option maxRecDepth 100000
theorem c_clearanceref21_Undo (K : Vu) (x : RFo) (m : Int) (hn : x.rs.length ≤ 100000) (w : World) (hK : Le K (Kw w)) (hx : FoV K x) : Calls Try.prog 35 #[.agg #[x.v], I m] w (PureF K (fun K' u => ∃ y : RFo, u = .tuple #[.agg #[y.v], B (undoC x.cs m).2] ∧ y.cs = (undoC x.cs m).1 ∧ FoV K' y) w) := by
  have hne := hx.ne
  have hsm := hx.small
  have hnc := now_cs hx.ne
  refine enter Try.func35 rfl Try.ntmps35 rfl ?_
  have hH := Hp.start w
  refine CW.seq ?_
  refine CW.region ?_
  refine RL.new rfl hH (f := fun b => (.pointer (some ⟨b, 0, none⟩))) (run_box (v := .agg _) rfl) ?_
  intro b3 w1 hH2
  refine RL.new rfl hH2 (f := fun b => (.pointer (some ⟨b, 0, none⟩))) (run_alloc Try.zeroValue43) ?_
  intro b6 w4 hH5
  refine RL.val rfl (run_assign (v := B false) rfl) ?_
  refine RL.nil ?_
  refine CW.seq ?_
  refine CW.seq ?_
  refine CW.region ?_
  refine RL.val rfl (run_move (v := I _) rfl) ?_
  refine RL.val rfl (run_lss rfl rfl) ?_
  refine RL.nil ?_
  refine CW.condP rfl (fun h8 => ?_) (fun h8 => ?_)
  · refine CW.region ?_
    refine RL.val rfl (run_assign (v := I 0) rfl) ?_
    refine RL.nil ?_
    refine CW.seq ?_
    refine CW.seq ?_
    refine CW.region ?_
    refine RL.val rfl (run_move (v := I _) rfl) ?_
    refine RL.val rfl (run_fieldAddr Try.underlying43 rfl (off := 0) rfl Try.sizeOf41 (by decide) rfl) ?_
    refine RL.val rfl (run_ld Try.underlying41 rfl rfl (hH5.cell (i := 1) rfl rfl)) ?_
    refine RL.val rfl (run_lenSl ((hx.sl0).mono (Le.trans hK hH5.kw)).sl rfl Try.underlying41 rfl) ?_
    refine RL.val rfl (run_geq rfl rfl) ?_
    refine RL.nil ?_
    refine CW.condP rfl (fun h10 => ?_) (fun h10 => ?_)
    · refine CW.seq ?_
      refine CW.region ?_
      refine RL.val rfl (run_ldA (cs := [_]) Try.underlying43 rfl rfl rfl (rangeAt_cells (hH5.blk (i := 1) rfl))) ?_
      refine RL.set hH5 (i := 0) rfl (run_stW rfl rfl rfl hx.one (hH5.blk (i := 0) rfl) rfl) ?_
      intro w11 hH12
      simp only [List.set_cons_zero, List.set_cons_succ] at hH12
      refine RL.val rfl (run_assign (v := B false) rfl) ?_
      refine RL.nil ?_
      refine CW.ret ?_
      refine outCT Try.results35 rfl rfl hH12 (i := 0) rfl Try.underlying43 rfl rfl ⟨[], (hH12.sub (.cons _ (.cons _ (List.Sublist.refl _)))), x, (by rw [undo_no hne (by omega)]; rfl), ?_, ?_⟩
      · rw [undo_no hne (by omega)]
      · exact hx.mono (Le.z _ _)
    · refine CW.skip ?_
      refine CW.seq ?_
      refine CW.region ?_
      refine RL.new rfl hH5 (f := fun b => (.slice (some ⟨b, 0, none⟩) 0 0)) (run_mkE Try.underlying41 Try.sizeOf37) ?_
      intro b15 w13 hH14
      (try simp only [List.flatMap_cons, List.flatMap_nil, clI, clB, clS, clP, clL, clA, List.append_nil, List.cons_append, List.nil_append] at hH14)
      have hH16 := hH14.blkRow 0 1 rfl (by decide)
      refine RL.val rfl (run_fieldAddr Try.underlying43 rfl (off := 0) rfl Try.sizeOf41 (by decide) rfl) ?_
      refine RL.val rfl (run_ld Try.underlying41 rfl rfl (hH16.cell (i := 2) rfl rfl)) ?_
      refine RL.val rfl (run_move (v := I _) rfl) ?_
      refine RL.val rfl (run_add rfl rfl (by omega)) ?_
      refine RL.val rfl (run_cut ((hx.sl0).mono (Le.trans hK hH16.kw)).sl Try.underlying41 Try.sizeOf37 rfl rfl (by omega)) ?_
      refine RL.app rfl hH16 (i := 0) rfl (((hx.sl0).mono (Le.trans hK hH16.kw)).sl.cut _ (by omega)) rfl rfl Try.underlying41 rfl rfl (size := 1) (bytes := 24) rfl rfl rfl (by decide) (by rw [Nat.mul_one]; exact rws_one hx) (by omega) (by simp only [maxLen]; omega) ?_
      intro v17 w18 hH19
      simp only [List.set_cons_zero, List.set_cons_succ] at hH19
      obtain ⟨Z20, hz21, hv22, -⟩ := hH19.frz (K)
      have hH23 : Hp _ w18 (_ :: _ :: Z20) := hz21.zin0 (L := [_, _])
      have hy24 : FoV (Kz K Z20) ⟨v17, x.rs.take ((max 0 m).toNat + 1)⟩ := hx.take_ hv22 (by omega) (by rw [Nat.mul_one, List.nil_append]; congr 1; omega) (by omega)
      refine RL.val rfl (run_bld (vs := [(0, v17)]) rfl (built_rfo (one_slice hv22).2)) ?_
      refine RL.set hH23 (i := 0) rfl (run_stW rfl rfl rfl hy24.one (hH23.blk (i := 0) rfl) rfl) ?_
      intro w25 hH26
      simp only [List.set_cons_zero, List.set_cons_succ] at hH26
      refine RL.val rfl (run_assign (v := B true) rfl) ?_
      refine RL.nil ?_
      refine CW.ret ?_
      refine outCT Try.results35 rfl rfl hH26 (i := 0) rfl Try.underlying43 rfl rfl ⟨Z20, (hH26.sub (.cons _ (.cons _ (List.Sublist.refl _)))), ⟨v17, x.rs.take ((max 0 m).toNat + 1)⟩, (by rw [undo_yes (by omega)]; rfl), ?_, ?_⟩
      · rw [undo_yes (by omega), cs_take]
      · exact hy24
  · refine CW.skip ?_
    refine CW.seq ?_
    refine CW.seq ?_
    refine CW.region ?_
    refine RL.val rfl (run_move (v := I _) rfl) ?_
    refine RL.val rfl (run_fieldAddr Try.underlying43 rfl (off := 0) rfl Try.sizeOf41 (by decide) rfl) ?_
    refine RL.val rfl (run_ld Try.underlying41 rfl rfl (hH5.cell (i := 1) rfl rfl)) ?_
    refine RL.val rfl (run_lenSl ((hx.sl0).mono (Le.trans hK hH5.kw)).sl rfl Try.underlying41 rfl) ?_
    refine RL.val rfl (run_geq rfl rfl) ?_
    refine RL.nil ?_
    refine CW.condP rfl (fun h28 => ?_) (fun h28 => ?_)
    · refine CW.seq ?_
      refine CW.region ?_
      refine RL.val rfl (run_ldA (cs := [_]) Try.underlying43 rfl rfl rfl (rangeAt_cells (hH5.blk (i := 1) rfl))) ?_
      refine RL.set hH5 (i := 0) rfl (run_stW rfl rfl rfl hx.one (hH5.blk (i := 0) rfl) rfl) ?_
      intro w29 hH30
      simp only [List.set_cons_zero, List.set_cons_succ] at hH30
      refine RL.val rfl (run_assign (v := B false) rfl) ?_
      refine RL.nil ?_
      refine CW.ret ?_
      refine outCT Try.results35 rfl rfl hH30 (i := 0) rfl Try.underlying43 rfl rfl ⟨[], (hH30.sub (.cons _ (.cons _ (List.Sublist.refl _)))), x, (by rw [undo_no hne (by omega)]; rfl), ?_, ?_⟩
      · rw [undo_no hne (by omega)]
      · exact hx.mono (Le.z _ _)
    · refine CW.skip ?_
      refine CW.seq ?_
      refine CW.region ?_
      refine RL.new rfl hH5 (f := fun b => (.slice (some ⟨b, 0, none⟩) 0 0)) (run_mkE Try.underlying41 Try.sizeOf37) ?_
      intro b33 w31 hH32
      (try simp only [List.flatMap_cons, List.flatMap_nil, clI, clB, clS, clP, clL, clA, List.append_nil, List.cons_append, List.nil_append] at hH32)
      have hH34 := hH32.blkRow 0 1 rfl (by decide)
      refine RL.val rfl (run_fieldAddr Try.underlying43 rfl (off := 0) rfl Try.sizeOf41 (by decide) rfl) ?_
      refine RL.val rfl (run_ld Try.underlying41 rfl rfl (hH34.cell (i := 2) rfl rfl)) ?_
      refine RL.val rfl (run_move (v := I _) rfl) ?_
      refine RL.val rfl (run_add rfl rfl (by omega)) ?_
      refine RL.val rfl (run_cut ((hx.sl0).mono (Le.trans hK hH34.kw)).sl Try.underlying41 Try.sizeOf37 rfl rfl (by omega)) ?_
      refine RL.app rfl hH34 (i := 0) rfl (((hx.sl0).mono (Le.trans hK hH34.kw)).sl.cut _ (by omega)) rfl rfl Try.underlying41 rfl rfl (size := 1) (bytes := 24) rfl rfl rfl (by decide) (by rw [Nat.mul_one]; exact rws_one hx) (by omega) (by simp only [maxLen]; omega) ?_
      intro v35 w36 hH37
      simp only [List.set_cons_zero, List.set_cons_succ] at hH37
      obtain ⟨Z38, hz39, hv40, -⟩ := hH37.frz (K)
      have hH41 : Hp _ w36 (_ :: _ :: Z38) := hz39.zin0 (L := [_, _])
      have hy42 : FoV (Kz K Z38) ⟨v35, x.rs.take ((max 0 m).toNat + 1)⟩ := hx.take_ hv40 (by omega) (by rw [Nat.mul_one, List.nil_append]; congr 1; omega) (by omega)
      refine RL.val rfl (run_bld (vs := [(0, v35)]) rfl (built_rfo (one_slice hv40).2)) ?_
      refine RL.set hH41 (i := 0) rfl (run_stW rfl rfl rfl hy42.one (hH41.blk (i := 0) rfl) rfl) ?_
      intro w43 hH44
      simp only [List.set_cons_zero, List.set_cons_succ] at hH44
      refine RL.val rfl (run_assign (v := B true) rfl) ?_
      refine RL.nil ?_
      refine CW.ret ?_
      refine outCT Try.results35 rfl rfl hH44 (i := 0) rfl Try.underlying43 rfl rfl ⟨Z38, (hH44.sub (.cons _ (.cons _ (List.Sublist.refl _)))), ⟨v35, x.rs.take ((max 0 m).toNat + 1)⟩, (by rw [undo_yes (by omega)]; rfl), ?_, ?_⟩
      · rw [undo_yes (by omega), cs_take]
      · exact hy42
theorem c_forest_New  (w : World) : Calls Try.prog 8 #[] w (Ret fun u w' => ∃ (F : Nat) (Z : List Ent), u = .pointer (some ⟨F, 0, none⟩) ∧ Hp w w' Z ∧ FoZ FX F 0 [[]] Z) := by
  refine enter Try.func8 rfl Try.ntmps8 rfl ?_
  have hH := Hp.start w
  refine CW.seq ?_
  refine CW.region ?_
  refine RL.val rfl (run_assign (v := .pointer none) rfl) ?_
  refine RL.nil ?_
  refine CW.seq ?_
  refine CW.region ?_
  refine RL.val rfl (run_bld (cells := #[.slice none 0 0, .slice none 0 0, .slice none 0 0, I 0]) (vs := []) rfl rfl) ?_
  refine RL.new rfl hH (f := fun b => (.pointer (some ⟨b, 0, none⟩))) (run_box (v := .agg _) rfl) ?_
  intro b3 w1 hH2
  refine RL.val rfl (run_assign (v := .pointer (some ⟨_, _, none⟩)) rfl) ?_
  refine RL.nil ?_
  refine CW.ret ?_
  have hN := ((hH2.nilRow 3 1).nilRow 1 1).nilRow 28 1
  exact out1 Try.results8 (v := .pointer (some ⟨b3, 0, none⟩)) rfl ⟨b3, _, rfl, hN.perm (List.perm_append_comm (l₁ := [_, _, _]) (l₂ := [_])), FoZ.new⟩
theorem c_clearancelaw21_do (W0 : World) (F m : Nat) (cs : List (List Nat)) (Zf R A : List Ent) (x : RFo) (o : OpR) (hm : m ≤ 10000) (hn : x.rs.length ≤ 100000) (hb : (nowR x).l.length ≤ 1000000) (w : World) (hF : FoZ FX F m cs Zf) (hx : FoV (Kz (Kw W0) R) x) (hH : Hp W0 w (Zf ++ (R ++ A))) : Calls Try.prog 15 #[.pointer (some ⟨F, 0, none⟩), .agg #[x.v], .agg (opL o).toArray] w (Ret fun u w' => ∃ (y : RFo) (Z' z : List Ent), u = .tuple #[.agg #[y.v], B (doB cs x.cs o)] ∧ y.cs = stepC x.cs o ∧ FoV (Kz (Kw W0) (z ++ R)) y ∧ FoZ FX F (m + 1) (stepC cs o) Z' ∧ Hp W0 w' (Z' ++ (z ++ (R ++ A)))) := by
  refine enter Try.func15 rfl Try.ntmps15 rfl ?_
  refine CW.seq ?_
  refine CW.region ?_
  refine RL.new rfl hH (f := fun b => (.pointer (some ⟨b, 0, none⟩))) (run_box (v := .agg _) rfl) ?_
  intro b3 w1 hH2
  refine RL.new rfl hH2 (f := fun b => (.pointer (some ⟨b, 0, none⟩))) (run_box (v := .agg _) rfl) ?_
  intro b6 w4 hH5
  refine RL.new rfl hH5 (f := fun b => (.pointer (some ⟨b, 0, none⟩))) (run_alloc Try.zeroValue43) ?_
  intro b9 w7 hH8
  refine RL.val rfl (run_assign (v := B false) rfl) ?_
  refine RL.nil ?_
  refine CW.seq ?_
  refine CW.seq ?_
  refine CW.region ?_
  refine RL.val rfl (run_fieldAddr Try.underlying46 rfl (off := 0) rfl Try.sizeOf3 (by decide) rfl) ?_
  refine RL.val rfl (run_ld Try.underlying3 rfl rfl (hH8.cell (i := 1) rfl (v := I _) rfl)) ?_
  refine RL.nil ?_
  refine CW.block ?_
  refine CW.seq ?_
  refine CW.region ?_
  refine RL.val rfl (run_eql rfl rfl) ?_
  refine RL.val rfl (run_assign (v := B _) rfl) ?_
  refine RL.nil ?_
  refine CW.condP rfl (fun h11 => ?_) (fun h11 => ?_)
  · refine CW.seq ?_
    refine CW.region ?_
    refine RL.val rfl (run_ldA (cs := [_]) Try.underlying43 rfl rfl rfl (rangeAt_cells (hH8.blk (i := 2) rfl))) ?_
    refine RL.val rfl (run_fieldAddr Try.underlying46 rfl (off := 1) rfl Try.sizeOf3 (by decide) rfl) ?_
    refine RL.val rfl (run_ld Try.underlying3 rfl rfl (hH8.cell (i := 1) rfl (v := I _) rfl)) ?_
    refine RL.val rfl (run_fieldAddr Try.underlying46 rfl (off := 2) rfl Try.sizeOf3 (by decide) rfl) ?_
    refine RL.val rfl (run_ld Try.underlying3 rfl rfl (hH8.cell (i := 1) rfl (v := I _) rfl)) ?_
    refine RL.callF rfl hH8 (c_clearanceref21_Union (Kz (Kw W0) R) _ _ _ (by assumption) (by assumption) _ (hH8.kz (Le.refl _) (fun x hx => (List.mem_cons_of_mem _ (List.mem_cons_of_mem _ (List.mem_cons_of_mem _ (List.mem_append_right _ (List.mem_append_left _ hx))))))) hx) (run_call3 Try.call34 rfl rfl rfl) ?_
    intro v14 w15 Z17 hH16 hp18
    have hH19 : Hp _ w15 (_ :: _ :: _ :: (Z17 ++ (Zf ++ (R ++ A)))) := hH16.zin (L := [_, _, _]) (L' := (Zf ++ (R ++ A)))
    have hH21 : Hp _ w15 (_ :: _ :: _ :: (Zf ++ (Z17 ++ (R ++ A)))) := Hp.swz (A := [_, _, _]) hH19
    obtain ⟨n22, rfl, nd23, nv24⟩ := hp18
    refine RL.val rfl (run_move (by conv => lhs; whnf)) ?_
    refine RL.val rfl (run_extract rfl (v := .agg _) rfl) ?_
    refine RL.val rfl (run_extract rfl (v := B _) rfl) ?_
    refine RL.new rfl hH21 (f := fun b => (.pointer (some ⟨b, 0, none⟩))) (run_alloc Try.zeroValue43) ?_
    intro b28 w26 hH27
    refine RL.set hH27 (i := 0) rfl (run_stW rfl rfl rfl (nv24.mono Le.kk).one (hH27.blk (i := 0) rfl) rfl) ?_
    intro w29 hH30
    simp only [List.set_cons_zero, List.set_cons_succ] at hH30
    refine RL.val rfl (run_assign (v := B _) rfl) ?_
    refine RL.nil ?_
    refine CW.seq ?_
    refine CW.regionS (by kernel_rfl) hH30 (.cons_cons _ (.cons _ (.cons_cons _ (.cons_cons _ (List.sublist_append_of_sublist_right (List.Sublist.refl _)))))) ?_
    intro w31 hH32
    refine AN.take 0 rfl rfl (by kernel_rfl) (by kernel_rfl) (by kernel_rfl) (hH32.sub (.cons_cons _ (.cons _ (.cons_cons _ (.cons_cons _ (List.sublist_append_of_sublist_right (List.Sublist.refl _))))))) (fun w hS => run_ldA (cs := [_]) Try.underlying43 rfl rfl rfl (rangeAt_cells (hS.blk (i := 0) rfl))) ?_
    refine AN.take 1 rfl rfl (by kernel_rfl) (by kernel_rfl) (by kernel_rfl) (hH32.sub (.cons_cons _ (.cons _ (.cons_cons _ (.cons_cons _ (List.sublist_append_of_sublist_right (List.Sublist.refl _))))))) (fun w hS => run_move (v := .pointer (some ⟨_, _, none⟩)) rfl) ?_
    refine AN.take 2 rfl rfl (by kernel_rfl) (by kernel_rfl) (by kernel_rfl) (hH32.sub (.cons_cons _ (.cons _ (.cons_cons _ (.cons_cons _ (List.sublist_append_of_sublist_right (List.Sublist.refl _))))))) (fun w hS => run_fieldAddr Try.underlying46 rfl (off := 1) rfl Try.sizeOf3 (by decide) rfl) ?_
    refine AN.take 3 rfl rfl (by kernel_rfl) (by kernel_rfl) (by kernel_rfl) (hH32.sub (.cons_cons _ (.cons _ (.cons_cons _ (.cons_cons _ (List.sublist_append_of_sublist_right (List.Sublist.refl _))))))) (fun w hS => run_ld Try.underlying3 rfl rfl (hS.cell (i := 1) rfl (v := I _) rfl)) ?_
    refine AN.take 4 rfl rfl (by kernel_rfl) (by kernel_rfl) (by kernel_rfl) (hH32.sub (.cons_cons _ (.cons _ (.cons_cons _ (.cons_cons _ (List.sublist_append_of_sublist_right (List.Sublist.refl _))))))) (fun w hS => run_fieldAddr Try.underlying46 rfl (off := 2) rfl Try.sizeOf3 (by decide) rfl) ?_
    refine AN.take 5 rfl rfl (by kernel_rfl) (by kernel_rfl) (by kernel_rfl) (hH32.sub (.cons_cons _ (.cons _ (.cons_cons _ (.cons_cons _ (List.sublist_append_of_sublist_right (List.Sublist.refl _))))))) (fun w hS => run_ld Try.underlying3 rfl rfl (hS.cell (i := 1) rfl (v := I _) rfl)) ?_
    refine AN.take 7 rfl rfl (by kernel_rfl) (by kernel_rfl) (by kernel_rfl) (hH32.sub (.cons_cons _ (.cons _ (.cons_cons _ (.cons_cons _ (List.sublist_append_of_sublist_right (List.Sublist.refl _))))))) (fun w hS => run_move (v := B _) rfl) ?_
    refine AN.one 6 (by kernel_rfl) ?_
    refine AO.callT rfl gnone rfl (m_Union _ _ (by omega) hF (Hp.zfront (A := [_, _, _, _]) hH32)) (run_call3 Try.call10 rfl rfl rfl) (fun u w' ⟨_, Z', _, h⟩ => Hp.sub (L := _ :: _ :: _ :: _ :: (Z' ++ (Z17 ++ (R ++ A)))) (Hp.zback (A := [_, _, _, _]) h) (.cons_cons _ (.cons _ (.cons_cons _ (.cons_cons _ (List.sublist_append_of_sublist_right (List.Sublist.refl _))))))) ?_
    rintro _ w35 ⟨rfl, Z36, hF37, h38⟩
    have hH39 : Hp _ w35 (_ :: _ :: _ :: _ :: (Z36 ++ (Z17 ++ (R ++ A)))) := (Hp.zback (A := [_, _, _, _]) h38)
    refine AN.take 8 rfl rfl (by kernel_rfl) (by kernel_rfl) (by kernel_rfl) (hH39.sub (.cons_cons _ (.cons _ (.cons_cons _ (.cons_cons _ (List.sublist_append_of_sublist_right (List.Sublist.refl _))))))) (fun w hS => run_eqlB Try.underlying4 rfl rfl) ?_
    refine AN.one 9 (by kernel_rfl) ?_
    refine AO.set rfl gnone hH39 (j := 1) rfl (.cons_cons _ (.cons _ (.cons_cons _ (.cons_cons _ (List.sublist_append_of_sublist_right (List.Sublist.refl _)))))) (run_stW rfl rfl rfl (nv24.mono Le.kk).one (hH39.blk (i := 1) rfl) rfl) ?_
    intro w44 hH45
    simp only [List.set_cons_zero, List.set_cons_succ] at hH45
    refine AN.take 10 rfl rfl (by kernel_rfl) (by kernel_rfl) (by kernel_rfl) (hH45.sub (.cons_cons _ (.cons _ (.cons_cons _ (.cons_cons _ (List.sublist_append_of_sublist_right (List.Sublist.refl _))))))) (fun w hS => run_assign (v := B _) rfl) ?_
    refine AN.done (by kernel_rfl) ?_
    refine CW.ret ?_
    obtain ⟨d1, d2, d3⟩ : doB cs x.cs o = _ ∧ stepC cs o = _ ∧ stepC x.cs o = _ := do_1 ‹_›
    exact outCT Try.results15 rfl rfl hH45 (i := 1) rfl Try.underlying43 rfl rfl ⟨n22, Z36, Z17, (by rw [d1]; rfl), (by rw [d3]; exact nd23), (nv24.mono Le.kk), (by rw [d2]; exact hF37), hH45.sub (.cons _ (.cons _ (.cons _ (.cons _ (List.Sublist.refl _)))))⟩
  · refine CW.seq ?_
    refine CW.region ?_
    refine RL.val rfl (run_eql rfl rfl) ?_
    refine RL.val rfl (run_assign (v := B _) rfl) ?_
    refine RL.nil ?_
    refine CW.condP rfl (fun h47 => ?_) (fun h47 => ?_)
    · refine CW.seq ?_
      refine CW.region ?_
      refine RL.val rfl (run_ldA (cs := [_]) Try.underlying43 rfl rfl rfl (rangeAt_cells (hH8.blk (i := 2) rfl))) ?_
      refine RL.val rfl (run_fieldAddr Try.underlying46 rfl (off := 1) rfl Try.sizeOf3 (by decide) rfl) ?_
      refine RL.val rfl (run_ld Try.underlying3 rfl rfl (hH8.cell (i := 1) rfl (v := I _) rfl)) ?_
      refine RL.callF rfl hH8 (c_clearanceref21_Undo (Kz (Kw W0) R) _ _ (by assumption) _ (hH8.kz (Le.refl _) (fun x hx => (List.mem_cons_of_mem _ (List.mem_cons_of_mem _ (List.mem_cons_of_mem _ (List.mem_append_right _ (List.mem_append_left _ hx))))))) hx) (run_call2 Try.call35 rfl rfl) ?_
      intro v50 w51 Z53 hH52 hp54
      have hH55 : Hp _ w51 (_ :: _ :: _ :: (Z53 ++ (Zf ++ (R ++ A)))) := hH52.zin (L := [_, _, _]) (L' := (Zf ++ (R ++ A)))
      have hH57 : Hp _ w51 (_ :: _ :: _ :: (Zf ++ (Z53 ++ (R ++ A)))) := Hp.swz (A := [_, _, _]) hH55
      obtain ⟨n58, rfl, nd59, nv60⟩ := hp54
      refine RL.val rfl (run_move (by conv => lhs; whnf)) ?_
      refine RL.val rfl (run_extract rfl (v := .agg _) rfl) ?_
      refine RL.val rfl (run_extract rfl (v := B _) rfl) ?_
      refine RL.new rfl hH57 (f := fun b => (.pointer (some ⟨b, 0, none⟩))) (run_alloc Try.zeroValue43) ?_
      intro b64 w62 hH63
      refine RL.set hH63 (i := 0) rfl (run_stW rfl rfl rfl (nv60.mono Le.kk).one (hH63.blk (i := 0) rfl) rfl) ?_
      intro w65 hH66
      simp only [List.set_cons_zero, List.set_cons_succ] at hH66
      refine RL.val rfl (run_assign (v := B _) rfl) ?_
      refine RL.nil ?_
      refine CW.seq ?_
      refine CW.regionS (by kernel_rfl) hH66 (.cons_cons _ (.cons _ (.cons_cons _ (.cons_cons _ (List.sublist_append_of_sublist_right (List.Sublist.refl _)))))) ?_
      intro w67 hH68
      refine AN.take 0 rfl rfl (by kernel_rfl) (by kernel_rfl) (by kernel_rfl) (hH68.sub (.cons_cons _ (.cons _ (.cons_cons _ (.cons_cons _ (List.sublist_append_of_sublist_right (List.Sublist.refl _))))))) (fun w hS => run_ldA (cs := [_]) Try.underlying43 rfl rfl rfl (rangeAt_cells (hS.blk (i := 0) rfl))) ?_
      refine AN.take 1 rfl rfl (by kernel_rfl) (by kernel_rfl) (by kernel_rfl) (hH68.sub (.cons_cons _ (.cons _ (.cons_cons _ (.cons_cons _ (List.sublist_append_of_sublist_right (List.Sublist.refl _))))))) (fun w hS => run_move (v := .pointer (some ⟨_, _, none⟩)) rfl) ?_
      refine AN.take 2 rfl rfl (by kernel_rfl) (by kernel_rfl) (by kernel_rfl) (hH68.sub (.cons_cons _ (.cons _ (.cons_cons _ (.cons_cons _ (List.sublist_append_of_sublist_right (List.Sublist.refl _))))))) (fun w hS => run_fieldAddr Try.underlying46 rfl (off := 1) rfl Try.sizeOf3 (by decide) rfl) ?_
      refine AN.take 3 rfl rfl (by kernel_rfl) (by kernel_rfl) (by kernel_rfl) (hH68.sub (.cons_cons _ (.cons _ (.cons_cons _ (.cons_cons _ (List.sublist_append_of_sublist_right (List.Sublist.refl _))))))) (fun w hS => run_ld Try.underlying3 rfl rfl (hS.cell (i := 1) rfl (v := I _) rfl)) ?_
      refine AN.take 5 rfl rfl (by kernel_rfl) (by kernel_rfl) (by kernel_rfl) (hH68.sub (.cons_cons _ (.cons _ (.cons_cons _ (.cons_cons _ (List.sublist_append_of_sublist_right (List.Sublist.refl _))))))) (fun w hS => run_move (v := B _) rfl) ?_
      refine AN.one 4 (by kernel_rfl) ?_
      refine AO.callT rfl gnone rfl (m_Undo _ (by omega) hF (Hp.zfront (A := [_, _, _, _]) hH68)) (run_call2 Try.call25 rfl rfl) (fun u w' ⟨_, Z', _, h⟩ => Hp.sub (L := _ :: _ :: _ :: _ :: (Z' ++ (Z53 ++ (R ++ A)))) (Hp.zback (A := [_, _, _, _]) h) (.cons_cons _ (.cons _ (.cons_cons _ (.cons_cons _ (List.sublist_append_of_sublist_right (List.Sublist.refl _))))))) ?_
      rintro _ w71 ⟨rfl, Z72, hF73, h74⟩
      have hH75 : Hp _ w71 (_ :: _ :: _ :: _ :: (Z72 ++ (Z53 ++ (R ++ A)))) := (Hp.zback (A := [_, _, _, _]) h74)
      refine AN.take 6 rfl rfl (by kernel_rfl) (by kernel_rfl) (by kernel_rfl) (hH75.sub (.cons_cons _ (.cons _ (.cons_cons _ (.cons_cons _ (List.sublist_append_of_sublist_right (List.Sublist.refl _))))))) (fun w hS => run_eqlB Try.underlying4 rfl rfl) ?_
      refine AN.one 7 (by kernel_rfl) ?_
      refine AO.set rfl gnone hH75 (j := 1) rfl (.cons_cons _ (.cons _ (.cons_cons _ (.cons_cons _ (List.sublist_append_of_sublist_right (List.Sublist.refl _)))))) (run_stW rfl rfl rfl (nv60.mono Le.kk).one (hH75.blk (i := 1) rfl) rfl) ?_
      intro w80 hH81
      simp only [List.set_cons_zero, List.set_cons_succ] at hH81
      refine AN.take 8 rfl rfl (by kernel_rfl) (by kernel_rfl) (by kernel_rfl) (hH81.sub (.cons_cons _ (.cons _ (.cons_cons _ (.cons_cons _ (List.sublist_append_of_sublist_right (List.Sublist.refl _))))))) (fun w hS => run_assign (v := B _) rfl) ?_
      refine AN.done (by kernel_rfl) ?_
      refine CW.ret ?_
      obtain ⟨d1, d2, d3⟩ : doB cs x.cs o = _ ∧ stepC cs o = _ ∧ stepC x.cs o = _ := do_2 ‹_› ‹_›
      exact outCT Try.results15 rfl rfl hH81 (i := 1) rfl Try.underlying43 rfl rfl ⟨n58, Z72, Z53, (by rw [d1]; rfl), (by rw [d3]; exact nd59), (nv60.mono Le.kk), (by rw [d2]; exact hF73), hH81.sub (.cons _ (.cons _ (.cons _ (.cons _ (List.Sublist.refl _)))))⟩
    · refine CW.skip ?_
      refine CW.seq ?_
      refine CW.region ?_
      refine RL.val rfl (run_ldA (cs := [_]) Try.underlying43 rfl rfl rfl (rangeAt_cells (hH8.blk (i := 2) rfl))) ?_
      refine RL.callF rfl hH8 (c_clearanceref21_Add (Kz (Kw W0) R) _ (by assumption) (by assumption) _ (hH8.kz (Le.refl _) (fun x hx => (List.mem_cons_of_mem _ (List.mem_cons_of_mem _ (List.mem_cons_of_mem _ (List.mem_append_right _ (List.mem_append_left _ hx))))))) hx) (run_call1 Try.call36 rfl) ?_
      intro v84 w85 Z87 hH86 hp88
      have hH89 : Hp _ w85 (_ :: _ :: _ :: (Z87 ++ (Zf ++ (R ++ A)))) := hH86.zin (L := [_, _, _]) (L' := (Zf ++ (R ++ A)))
      have hH91 : Hp _ w85 (_ :: _ :: _ :: (Zf ++ (Z87 ++ (R ++ A)))) := Hp.swz (A := [_, _, _]) hH89
      obtain ⟨n92, rfl, nd93, nv94⟩ := hp88
      refine RL.val rfl (run_move (by conv => lhs; whnf)) ?_
      refine RL.val rfl (run_extract rfl (v := .agg _) rfl) ?_
      refine RL.val rfl (run_extract rfl (v := I _) rfl) ?_
      refine RL.new rfl hH91 (f := fun b => (.pointer (some ⟨b, 0, none⟩))) (run_alloc Try.zeroValue43) ?_
      intro b97 w95 hH96
      refine RL.set hH96 (i := 0) rfl (run_stW rfl rfl rfl (nv94.mono Le.kk).one (hH96.blk (i := 0) rfl) rfl) ?_
      intro w98 hH99
      simp only [List.set_cons_zero, List.set_cons_succ] at hH99
      refine RL.val rfl (run_assign (v := I _) rfl) ?_
      refine RL.nil ?_
      refine CW.seq ?_
      refine CW.regionS (by kernel_rfl) hH99 (.cons_cons _ (.cons _ (.cons_cons _ (.cons_cons _ (List.sublist_append_of_sublist_right (List.Sublist.refl _)))))) ?_
      intro w100 hH101
      refine AN.take 0 rfl rfl (by kernel_rfl) (by kernel_rfl) (by kernel_rfl) (hH101.sub (.cons_cons _ (.cons _ (.cons_cons _ (.cons_cons _ (List.sublist_append_of_sublist_right (List.Sublist.refl _))))))) (fun w hS => run_ldA (cs := [_]) Try.underlying43 rfl rfl rfl (rangeAt_cells (hS.blk (i := 0) rfl))) ?_
      refine AN.take 1 rfl rfl (by kernel_rfl) (by kernel_rfl) (by kernel_rfl) (hH101.sub (.cons_cons _ (.cons _ (.cons_cons _ (.cons_cons _ (List.sublist_append_of_sublist_right (List.Sublist.refl _))))))) (fun w hS => run_move (v := .pointer (some ⟨_, _, none⟩)) rfl) ?_
      refine AN.take 3 rfl rfl (by kernel_rfl) (by kernel_rfl) (by kernel_rfl) (hH101.sub (.cons_cons _ (.cons _ (.cons_cons _ (.cons_cons _ (List.sublist_append_of_sublist_right (List.Sublist.refl _))))))) (fun w hS => run_move (v := I _) rfl) ?_
      refine AN.one 2 (by kernel_rfl) ?_
      refine AO.callT rfl gnone rfl (m_Add (by omega) hF (Hp.zfront (A := [_, _, _, _]) hH101)) (run_call1 Try.call9 rfl) (fun u w' ⟨_, Z', _, h⟩ => Hp.sub (L := _ :: _ :: _ :: _ :: (Z' ++ (Z87 ++ (R ++ A)))) (Hp.zback (A := [_, _, _, _]) h) (.cons_cons _ (.cons _ (.cons_cons _ (.cons_cons _ (List.sublist_append_of_sublist_right (List.Sublist.refl _))))))) ?_
      rintro _ w104 ⟨rfl, Z105, hF106, h107⟩
      have hH108 : Hp _ w104 (_ :: _ :: _ :: _ :: (Z105 ++ (Z87 ++ (R ++ A)))) := (Hp.zback (A := [_, _, _, _]) h107)
      refine AN.take 4 rfl rfl (by kernel_rfl) (by kernel_rfl) (by kernel_rfl) (hH108.sub (.cons_cons _ (.cons _ (.cons_cons _ (.cons_cons _ (List.sublist_append_of_sublist_right (List.Sublist.refl _))))))) (fun w hS => run_eql rfl rfl) ?_
      refine AN.one 5 (by kernel_rfl) ?_
      refine AO.set rfl gnone hH108 (j := 1) rfl (.cons_cons _ (.cons _ (.cons_cons _ (.cons_cons _ (List.sublist_append_of_sublist_right (List.Sublist.refl _)))))) (run_stW rfl rfl rfl (nv94.mono Le.kk).one (hH108.blk (i := 1) rfl) rfl) ?_
      intro w112 hH113
      simp only [List.set_cons_zero, List.set_cons_succ] at hH113
      refine AN.take 6 rfl rfl (by kernel_rfl) (by kernel_rfl) (by kernel_rfl) (hH113.sub (.cons_cons _ (.cons _ (.cons_cons _ (.cons_cons _ (List.sublist_append_of_sublist_right (List.Sublist.refl _))))))) (fun w hS => run_assign (v := B _) rfl) ?_
      refine AN.done (by kernel_rfl) ?_
      refine CW.ret ?_
      obtain ⟨d1, d2, d3⟩ : doB cs x.cs o = _ ∧ stepC cs o = _ ∧ stepC x.cs o = _ := do_3 ‹_› ‹_›
      exact outCT Try.results15 rfl rfl hH113 (i := 1) rfl Try.underlying43 rfl rfl ⟨n92, Z105, Z87, (by rw [d1]; rfl), (by rw [d3]; exact nd93), (nv94.mono Le.kk), (by rw [d2]; exact hF106), hH113.sub (.cons _ (.cons _ (.cons _ (.cons _ (List.Sublist.refl _)))))⟩
theorem c_clearancelaw21_alive  (w : World) : Calls Try.prog 7 #[] w (Pure (B true) w) := by
  refine enter Try.func7 rfl Try.ntmps7 rfl ?_
  have hH := Hp.start w
  refine CW.seq ?_
  refine CW.region ?_
  refine RL.val rfl (run_assign (v := B false) rfl) ?_
  refine RL.nil ?_
  refine CW.seq ?_
  refine CW.region ?_
  refine RL.callT rfl (c_forest_New _) (run_call0 Try.call8) ?_
  rintro _ w5 ⟨F3, Zf4, rfl, hz6, hF7⟩
  have hH8 : Hp _ w5 (Zf4) := Hp.unZ (A := []) (Hp.zin (L := []) (L' := []) ((Hp.nilT (L := []) hH).callZ hz6))
  refine RL.val rfl (run_assign (v := .pointer (some ⟨_, _, none⟩)) rfl) ?_
  refine RL.nil ?_
  refine CW.seq ?_
  refine CW.region ?_
  refine RL.val rfl (run_move (v := .pointer (some ⟨_, _, none⟩)) rfl) ?_
  refine RL.callT rfl (m_Add (by omega) hF7 (Hp.zfront (A := []) (Hp.nilZ (A := []) hH8))) (run_call1 Try.call9 rfl) ?_
  rintro _ w11 ⟨rfl, Z12, hF13, h14⟩
  have hH15 : Hp _ w11 (Z12) := (Hp.unZ (A := []) (Hp.zback (A := []) h14))
  refine RL.val rfl (run_move (v := .pointer (some ⟨_, _, none⟩)) rfl) ?_
  refine RL.callT rfl (m_Add (by omega) hF13 (Hp.zfront (A := []) (Hp.nilZ (A := []) hH15))) (run_call1 Try.call9 rfl) ?_
  rintro _ w18 ⟨rfl, Z19, hF20, h21⟩
  have hH22 : Hp _ w18 (Z19) := (Hp.unZ (A := []) (Hp.zback (A := []) h21))
  refine RL.val rfl (run_move (v := .pointer (some ⟨_, _, none⟩)) rfl) ?_
  refine RL.callT rfl (m_Add (by omega) hF20 (Hp.zfront (A := []) (Hp.nilZ (A := []) hH22))) (run_call1 Try.call9 rfl) ?_
  rintro _ w25 ⟨rfl, Z26, hF27, h28⟩
  have hH29 : Hp _ w25 (Z26) := (Hp.unZ (A := []) (Hp.zback (A := []) h28))
  refine RL.val rfl (run_assign (v := I _) rfl) ?_
  refine RL.val rfl (run_assign (v := I _) rfl) ?_
  refine RL.val rfl (run_assign (v := I _) rfl) ?_
  refine RL.nil ?_
  refine CW.seq ?_
  refine CW.region ?_
  refine RL.val rfl (run_move (v := I _) rfl) ?_
  refine RL.val rfl (run_eql rfl rfl) ?_
  refine RL.val rfl (run_move (v := B _) rfl) ?_
  refine RL.gT rfl (bT (by decide +kernel)) ?_
  refine RL.val rfl (run_move (v := I _) rfl) ?_
  refine RL.gT rfl (bT (by decide +kernel)) ?_
  refine RL.val rfl (run_eql rfl rfl) ?_
  refine RL.val rfl (run_pickT (bT (by decide +kernel)) (v := B _) rfl) ?_
  refine RL.val rfl (run_move (v := B _) rfl) ?_
  refine RL.gT rfl (bT (by decide +kernel)) ?_
  refine RL.val rfl (run_move (v := I _) rfl) ?_
  refine RL.gT rfl (bT (by decide +kernel)) ?_
  refine RL.val rfl (run_eql rfl rfl) ?_
  refine RL.val rfl (run_pickT (bT (by decide +kernel)) (v := B _) rfl) ?_
  refine RL.val rfl (run_move (v := B _) rfl) ?_
  refine RL.gT rfl (bT (by decide +kernel)) ?_
  refine RL.val rfl (run_move (v := .pointer (some ⟨_, _, none⟩)) rfl) ?_
  refine RL.gT rfl (bT (by decide +kernel)) ?_
  refine RL.callT rfl (m_Union _ _ (by omega) hF27 (Hp.zfront (A := []) (Hp.nilZ (A := []) hH29))) (run_call3 Try.call10 rfl (show _ = I 0 from rfl) (show _ = I 2 from rfl)) ?_
  rintro _ w35 ⟨rfl, Z36, hF37, h38⟩
  have hH39 : Hp _ w35 (Z36) := (Hp.unZ (A := []) (Hp.zback (A := []) h38))
  refine RL.val rfl (run_pickT (bT (by decide +kernel)) (v := B _) rfl) ?_
  refine RL.val rfl (run_move (v := B _) rfl) ?_
  refine RL.gT rfl (bR (c := true) (by decide +kernel)) ?_
  refine RL.val rfl (run_move (v := .pointer (some ⟨_, _, none⟩)) rfl) ?_
  refine RL.gT rfl (bR (c := true) (by decide +kernel)) ?_
  refine RL.callR rfl hH39 (m_Class _ (by omega) hF37 hH39 (fun x hx => hx)) (run_call2 Try.call23 rfl (show _ = I 2 from rfl)) ?_
  intro v43 w41 hH42
  refine RL.gT rfl (bR (c := true) (by decide +kernel)) ?_
  refine RL.new rfl hH42 (f := fun b => (.slice (some ⟨b, 0, none⟩) 2 2)) (run_mkL Try.underlying37 rfl rfl (sz := 1) (vs := [I 0, I 2]) rfl rfl (by decide) (by decide) rfl rfl) ?_
  intro b46 w44 hH45
  (try simp only [List.flatMap_cons, List.flatMap_nil, clI, clB, clS, clP, clL, clA, List.append_nil, List.cons_append, List.nil_append] at hH45)
  refine RL.gT rfl (bR (c := true) (by decide +kernel)) ?_
  refine RL.callP rfl hH45 (c_clearanceref01_Ints _ _ (classI [0, 1, 0] 2) [0, 2] _ (hH45.sl (i := 1) rfl) (hH45.slBlk (i := 0) (n := 2) (sz := 1) rfl rfl (by decide))) (run_call2 Try.call22 rfl rfl) ?_
  intro w47 hH48
  refine RL.val rfl (run_pickT (bR (c := true) (by decide +kernel)) (v := B _) rfl) ?_
  refine RL.val rfl (run_move (v := B _) rfl) ?_
  refine RL.gT rfl (bT (by decide +kernel)) ?_
  refine RL.val rfl (run_move (v := .pointer (some ⟨_, _, none⟩)) rfl) ?_
  refine RL.gT rfl (bT (by decide +kernel)) ?_
  refine RL.callP rfl hH48 (m_Count hF37 hH48 (fun x hx => (List.mem_cons_of_mem _ (List.mem_cons_of_mem _ hx)))) (run_call1 Try.call18 rfl) ?_
  intro w51 hH52
  refine RL.gT rfl (bT (by decide +kernel)) ?_
  refine RL.val rfl (run_eql rfl rfl) ?_
  refine RL.val rfl (run_pickT (bT (by decide +kernel)) (v := B _) rfl) ?_
  refine RL.val rfl (run_move (v := B _) rfl) ?_
  refine RL.gT rfl (bT (by decide +kernel)) ?_
  refine RL.val rfl (run_move (v := .pointer (some ⟨_, _, none⟩)) rfl) ?_
  refine RL.gT rfl (bT (by decide +kernel)) ?_
  refine RL.callT rfl (m_Union _ _ (by omega) hF37 (Hp.zfront (A := [_, _]) (Hp.nilZ (A := [_, _]) hH52))) (run_call3 Try.call10 rfl (show _ = I 2 from rfl) (show _ = I 0 from rfl)) ?_
  rintro _ w56 ⟨rfl, Z57, hF58, h59⟩
  have hH60 : Hp _ w56 (_ :: _ :: Z57) := (Hp.unZ (A := [_, _]) (Hp.zback (A := [_, _]) h59))
  refine RL.gT rfl (bT (by decide +kernel)) ?_
  refine RL.val rfl (run_not (bR (c := false) (by decide +kernel))) ?_
  refine RL.val rfl (run_pickT (bT (by decide +kernel)) (v := B _) rfl) ?_
  refine RL.val rfl (run_assign (v := B _) rfl) ?_
  refine RL.nil ?_
  refine CW.ret ?_
  refine outP1 Try.results7 (congrArg B ?_) hH60.below
  rfl
theorem n_Len  (w : World) : Calls Try.prog 16 #[.pointer none] w (Pure (I 0) w) := by
  refine enter Try.func16 rfl Try.ntmps16 rfl ?_
  have hH := Hp.start w
  refine CW.seq ?_
  refine CW.region ?_
  refine RL.val rfl (run_assign (v := I 0) rfl) ?_
  refine RL.nil ?_
  refine CW.seq ?_
  refine CW.seq ?_
  refine CW.region ?_
  refine RL.val rfl (run_move (v := .pointer none) rfl) ?_
  refine RL.val rfl (run_eqlP1 Try.underlying26 rfl rfl) ?_
  refine RL.nil ?_
  refine CW.condT rfl ?_
  refine CW.seq ?_
  refine CW.region ?_
  refine RL.val rfl (run_assign (v := I 0) rfl) ?_
  refine RL.nil ?_
  refine CW.ret ?_
  refine outP1 Try.results16 (congrArg I ?_) hH.below
  rfl
theorem n_Count  (w : World) : Calls Try.prog 18 #[.pointer none] w (Pure (I 0) w) := by
  refine enter Try.func18 rfl Try.ntmps18 rfl ?_
  have hH := Hp.start w
  refine CW.seq ?_
  refine CW.region ?_
  refine RL.val rfl (run_assign (v := I 0) rfl) ?_
  refine RL.nil ?_
  refine CW.seq ?_
  refine CW.seq ?_
  refine CW.region ?_
  refine RL.val rfl (run_move (v := .pointer none) rfl) ?_
  refine RL.val rfl (run_eqlP1 Try.underlying26 rfl rfl) ?_
  refine RL.nil ?_
  refine CW.condT rfl ?_
  refine CW.seq ?_
  refine CW.region ?_
  refine RL.val rfl (run_assign (v := I 0) rfl) ?_
  refine RL.nil ?_
  refine CW.ret ?_
  refine outP1 Try.results18 (congrArg I ?_) hH.below
  rfl
theorem n_Mark  (w : World) : Calls Try.prog 20 #[.pointer none] w (Pure (I 0) w) := by
  refine enter Try.func20 rfl Try.ntmps20 rfl ?_
  have hH := Hp.start w
  refine CW.seq ?_
  refine CW.region ?_
  refine RL.val rfl (run_assign (v := I 0) rfl) ?_
  refine RL.nil ?_
  refine CW.seq ?_
  refine CW.seq ?_
  refine CW.region ?_
  refine RL.val rfl (run_move (v := .pointer none) rfl) ?_
  refine RL.val rfl (run_eqlP1 Try.underlying26 rfl rfl) ?_
  refine RL.nil ?_
  refine CW.condT rfl ?_
  refine CW.seq ?_
  refine CW.region ?_
  refine RL.val rfl (run_assign (v := I 0) rfl) ?_
  refine RL.nil ?_
  refine CW.ret ?_
  refine outP1 Try.results20 (congrArg I ?_) hH.below
  rfl
theorem n_Add  (w : World) : Calls Try.prog 9 #[.pointer none] w (Pure (I 0) w) := by
  refine enter Try.func9 rfl Try.ntmps9 rfl ?_
  have hH := Hp.start w
  refine CW.seq ?_
  refine CW.region ?_
  refine RL.val rfl (run_assign (v := I 0) rfl) ?_
  refine RL.nil ?_
  refine CW.seq ?_
  refine CW.seq ?_
  refine CW.region ?_
  refine RL.val rfl (run_move (v := .pointer none) rfl) ?_
  refine RL.val rfl (run_eqlP1 Try.underlying26 rfl rfl) ?_
  refine RL.nil ?_
  refine CW.condT rfl ?_
  refine CW.seq ?_
  refine CW.region ?_
  refine RL.val rfl (run_assign (v := I 0) rfl) ?_
  refine RL.nil ?_
  refine CW.ret ?_
  refine outP1 Try.results9 (congrArg I ?_) hH.below
  rfl
theorem n_is  (i : Int) (w : World) : Calls Try.prog 28 #[.pointer none, I i] w (Pure (B false) w) := by
  refine enter Try.func28 rfl Try.ntmps28 rfl ?_
  have hH := Hp.start w
  refine CW.seq ?_
  refine CW.region ?_
  refine RL.val rfl (run_assign (v := B false) rfl) ?_
  refine RL.nil ?_
  refine CW.seq ?_
  refine CW.region ?_
  refine RL.val rfl (run_move (v := I _) rfl) ?_
  refine RL.val rfl (run_geq rfl rfl) ?_
  refine RL.val rfl (run_move (v := B _) rfl) ?_
  refine RL.splitP (dj := 7) rfl (fun h2 => ?_) (fun h2 => ?_)
  · refine RL.gT rfl (bT h2) ?_
    refine RL.val rfl (run_move (v := I _) rfl) ?_
    refine RL.gT rfl (bT h2) ?_
    refine RL.val rfl (run_move (v := .pointer none) rfl) ?_
    refine RL.gT rfl (bT h2) ?_
    refine RL.callP rfl hH (n_Len _) (run_call1 Try.call16 rfl) ?_
    intro w3 hH4
    refine RL.gT rfl (bT h2) ?_
    refine RL.val rfl (run_lss rfl rfl) ?_
    refine RL.val rfl (run_pickT (bT h2) (v := B _) rfl) ?_
    refine RL.val rfl (run_assign (v := B _) rfl) ?_
    refine RL.nil ?_
    refine CW.ret ?_
    refine outP1 Try.results28 (congrArg B ?_) hH4.below
    exact decide_eq_false (by omega)
  · refine RL.gF rfl rfl (bF h2) rfl ?_
    refine RL.gF rfl rfl (bF h2) rfl ?_
    refine RL.gF rfl rfl (bF h2) rfl ?_
    refine RL.gF rfl rfl (bF h2) rfl ?_
    refine RL.val rfl (run_pickF (bF h2) (v := B false) rfl) ?_
    refine RL.val rfl (run_assign (v := B _) rfl) ?_
    refine RL.nil ?_
    refine CW.ret ?_
    refine outP1 Try.results28 (congrArg B ?_) hH.below
    rfl
theorem n_Find  (i : Int) (w : World) : Calls Try.prog 11 #[.pointer none, I i] w (Pure (I (-1)) w) := by
  refine enter Try.func11 rfl Try.ntmps11 rfl ?_
  have hH := Hp.start w
  refine CW.seq ?_
  refine CW.region ?_
  refine RL.val rfl (run_assign (v := I 0) rfl) ?_
  refine RL.nil ?_
  refine CW.seq ?_
  refine CW.seq ?_
  refine CW.region ?_
  refine RL.val rfl (run_move (v := .pointer none) rfl) ?_
  refine RL.val rfl (run_move (v := I _) rfl) ?_
  refine RL.callP rfl hH (n_is _ _) (run_call2 Try.call28 rfl rfl) ?_
  intro w1 hH2
  refine RL.val rfl (run_not rfl) ?_
  refine RL.nil ?_
  refine CW.condT rfl ?_
  refine CW.seq ?_
  refine CW.region ?_
  refine RL.val rfl (run_assign (v := I (-1)) rfl) ?_
  refine RL.nil ?_
  refine CW.ret ?_
  refine outP1 Try.results11 (congrArg I ?_) hH2.below
  rfl
theorem n_Class  (i : Int) (w : World) : Calls Try.prog 23 #[.pointer none, I i] w (PureRow 3 1 0 [] w) := by
  refine enter Try.func23 rfl Try.ntmps23 rfl ?_
  have hH := Hp.start w
  refine CW.seq ?_
  refine CW.region ?_
  refine RL.val rfl (run_assign (v := .slice none 0 0) rfl) ?_
  have hH1 := hH.nilRow 3 1
  refine RL.nil ?_
  refine CW.scope ?_
  refine CW.seq ?_
  refine CW.seq ?_
  refine CW.region ?_
  refine RL.val rfl (run_move (v := .pointer none) rfl) ?_
  refine RL.val rfl (run_move (v := I _) rfl) ?_
  refine RL.callP rfl hH1 (n_is _ _) (run_call2 Try.call28 rfl rfl) ?_
  intro w2 hH3
  refine RL.val rfl (run_not rfl) ?_
  refine RL.nil ?_
  refine CW.condT rfl ?_
  refine CW.seq ?_
  refine CW.region ?_
  refine RL.val rfl (run_assign (v := .slice none 0 0) rfl) ?_
  have hH5 := hH3.nilRow 3 1
  refine RL.nil ?_
  refine CW.ret ?_
  exact outR Try.results23 rfl hH5 (i := 0) rfl (rfl) (rfl)
theorem n_Union  (i j : Int) (w : World) : Calls Try.prog 10 #[.pointer none, I i, I j] w (Pure (B false) w) := by
  refine enter Try.func10 rfl Try.ntmps10 rfl ?_
  have hH := Hp.start w
  refine CW.seq ?_
  refine CW.region ?_
  refine RL.val rfl (run_assign (v := B false) rfl) ?_
  refine RL.nil ?_
  refine CW.seq ?_
  refine CW.seq ?_
  refine CW.region ?_
  refine RL.val rfl (run_move (v := .pointer none) rfl) ?_
  refine RL.val rfl (run_move (v := I _) rfl) ?_
  refine RL.callP rfl hH (n_is _ _) (run_call2 Try.call28 rfl rfl) ?_
  intro w1 hH2
  refine RL.val rfl (run_not rfl) ?_
  refine RL.val rfl (run_move (v := B _) rfl) ?_
  refine RL.gF rfl rfl rfl rfl ?_
  refine RL.gF rfl rfl rfl rfl ?_
  refine RL.gF rfl rfl rfl rfl ?_
  refine RL.gF rfl rfl rfl rfl ?_
  refine RL.val rfl (run_pickT rfl (v := B true) rfl) ?_
  refine RL.nil ?_
  refine CW.condT rfl ?_
  refine CW.seq ?_
  refine CW.region ?_
  refine RL.val rfl (run_assign (v := B false) rfl) ?_
  refine RL.nil ?_
  refine CW.ret ?_
  refine outP1 Try.results10 (congrArg B ?_) hH2.below
  rfl
theorem n_Undo  (m : Int) (w : World) : Calls Try.prog 25 #[.pointer none, I m] w (Pure (B false) w) := by
  refine enter Try.func25 rfl Try.ntmps25 rfl ?_
  have hH := Hp.start w
  refine CW.seq ?_
  refine CW.region ?_
  refine RL.val rfl (run_assign (v := B false) rfl) ?_
  refine RL.nil ?_
  refine CW.seq ?_
  refine CW.seq ?_
  refine CW.region ?_
  refine RL.val rfl (run_move (v := .pointer none) rfl) ?_
  refine RL.val rfl (run_eqlP1 Try.underlying26 rfl rfl) ?_
  refine RL.val rfl (run_move (v := B _) rfl) ?_
  refine RL.gF rfl rfl rfl rfl ?_
  refine RL.gF rfl rfl rfl rfl ?_
  refine RL.gF rfl rfl rfl rfl ?_
  refine RL.gF rfl rfl rfl rfl ?_
  refine RL.gF rfl rfl rfl rfl ?_
  refine RL.gF rfl rfl rfl rfl ?_
  refine RL.gF rfl rfl rfl rfl ?_
  refine RL.val rfl (run_pickT rfl (v := B true) rfl) ?_
  refine RL.nil ?_
  refine CW.condT rfl ?_
  refine CW.seq ?_
  refine CW.region ?_
  refine RL.val rfl (run_assign (v := B false) rfl) ?_
  refine RL.nil ?_
  refine CW.ret ?_
  refine outP1 Try.results25 (congrArg B ?_) hH.below
  rfl
theorem c_clearancelaw21_ForestNobody (o : OpR) (w : World) : Calls Try.prog 6 #[.agg (opL o).toArray] w (Pure (B true) w) := by
  refine enter Try.func6 rfl Try.ntmps6 rfl ?_
  have hH := Hp.start w
  refine CW.seq ?_
  refine CW.region ?_
  refine RL.new rfl hH (f := fun b => (.pointer (some ⟨b, 0, none⟩))) (run_box (v := .agg _) rfl) ?_
  intro b3 w1 hH2
  refine RL.val rfl (run_assign (v := B false) rfl) ?_
  refine RL.nil ?_
  refine CW.seq ?_
  refine CW.region ?_
  refine RL.val rfl (run_assign (v := .pointer none) rfl) ?_
  refine RL.nil ?_
  refine CW.seq ?_
  refine CW.seq ?_
  refine CW.region ?_
  refine RL.val rfl (run_move (v := .pointer none) rfl) ?_
  refine RL.callP rfl hH2 (n_Len _) (run_call1 Try.call16 rfl) ?_
  intro w4 hH5
  refine RL.val rfl (run_neq rfl rfl) ?_
  refine RL.val rfl (run_move (v := B _) rfl) ?_
  refine RL.gT rfl (bF ((fun h => h (by rfl)))) ?_
  refine RL.val rfl (run_move (v := .pointer none) rfl) ?_
  refine RL.gT rfl (bF ((fun h => h (by rfl)))) ?_
  refine RL.callP rfl hH5 (n_Add _) (run_call1 Try.call9 rfl) ?_
  intro w7 hH8
  refine RL.gT rfl (bF ((fun h => h (by rfl)))) ?_
  refine RL.val rfl (run_neq rfl rfl) ?_
  refine RL.val rfl (run_pickF (bF ((fun h => h (by rfl)))) (v := B _) rfl) ?_
  refine RL.val rfl (run_move (v := B _) rfl) ?_
  refine RL.gT rfl (bF ((fun h => h (by rfl)))) ?_
  refine RL.val rfl (run_move (v := .pointer none) rfl) ?_
  refine RL.gT rfl (bF ((fun h => h (by rfl)))) ?_
  refine RL.val rfl (run_fieldAddr Try.underlying46 rfl (off := 1) rfl Try.sizeOf3 (by decide) rfl) ?_
  refine RL.gT rfl (bF ((fun h => h (by rfl)))) ?_
  refine RL.val rfl (run_ld Try.underlying3 rfl rfl (hH8.cell (i := 0) rfl (v := I _) rfl)) ?_
  refine RL.gT rfl (bF ((fun h => h (by rfl)))) ?_
  refine RL.callP rfl hH8 (n_Find _ _) (run_call2 Try.call11 rfl rfl) ?_
  intro w10 hH11
  refine RL.gT rfl (bF ((fun h => h (by rfl)))) ?_
  refine RL.val rfl (run_neq rfl rfl) ?_
  refine RL.val rfl (run_pickF (bF ((fun h => h (by rfl)))) (v := B _) rfl) ?_
  refine RL.val rfl (run_move (v := B _) rfl) ?_
  refine RL.gT rfl (bF ((fun h => h (by rfl)))) ?_
  refine RL.val rfl (run_move (v := .pointer none) rfl) ?_
  refine RL.gT rfl (bF ((fun h => h (by rfl)))) ?_
  refine RL.val rfl (run_fieldAddr Try.underlying46 rfl (off := 1) rfl Try.sizeOf3 (by decide) rfl) ?_
  refine RL.gT rfl (bF ((fun h => h (by rfl)))) ?_
  refine RL.val rfl (run_ld Try.underlying3 rfl rfl (hH11.cell (i := 0) rfl (v := I _) rfl)) ?_
  refine RL.gT rfl (bF ((fun h => h (by rfl)))) ?_
  refine RL.callR rfl hH11 (n_Class _ _) (run_call2 Try.call23 rfl rfl) ?_
  intro v15 w13 hH14
  refine RL.gT rfl (bF ((fun h => h (by rfl)))) ?_
  refine RL.val rfl (run_lenSl (hH14.sl (i := 0) rfl) rfl Try.underlying37 rfl) ?_
  refine RL.gT rfl (bF ((fun h => h (by rfl)))) ?_
  refine RL.val rfl (run_neq rfl rfl) ?_
  refine RL.val rfl (run_pickF (bF ((fun h => h (by rfl)))) (v := B _) rfl) ?_
  refine RL.val rfl (run_move (v := B _) rfl) ?_
  refine RL.gT rfl (bF ((fun h => h (by rfl)))) ?_
  refine RL.val rfl (run_move (v := .pointer none) rfl) ?_
  refine RL.gT rfl (bF ((fun h => h (by rfl)))) ?_
  refine RL.val rfl (run_fieldAddr Try.underlying46 rfl (off := 1) rfl Try.sizeOf3 (by decide) rfl) ?_
  refine RL.gT rfl (bF ((fun h => h (by rfl)))) ?_
  refine RL.val rfl (run_ld Try.underlying3 rfl rfl (hH14.cell (i := 1) rfl (v := I _) rfl)) ?_
  refine RL.gT rfl (bF ((fun h => h (by rfl)))) ?_
  refine RL.val rfl (run_fieldAddr Try.underlying46 rfl (off := 2) rfl Try.sizeOf3 (by decide) rfl) ?_
  refine RL.gT rfl (bF ((fun h => h (by rfl)))) ?_
  refine RL.val rfl (run_ld Try.underlying3 rfl rfl (hH14.cell (i := 1) rfl (v := I _) rfl)) ?_
  refine RL.gT rfl (bF ((fun h => h (by rfl)))) ?_
  refine RL.callP rfl hH14 (n_Union _ _ _) (run_call3 Try.call10 rfl rfl rfl) ?_
  intro w17 hH18
  refine RL.val rfl (run_pickF (bF ((fun h => h (by rfl)))) (v := B _) rfl) ?_
  refine RL.val rfl (run_move (v := B _) rfl) ?_
  refine RL.gT rfl rfl ?_
  refine RL.val rfl (run_move (v := .pointer none) rfl) ?_
  refine RL.gT rfl rfl ?_
  refine RL.callP rfl hH18 (n_Count _) (run_call1 Try.call18 rfl) ?_
  intro w20 hH21
  refine RL.gT rfl rfl ?_
  refine RL.val rfl (run_neq rfl rfl) ?_
  refine RL.val rfl (run_pickF rfl (v := B _) rfl) ?_
  refine RL.val rfl (run_move (v := B _) rfl) ?_
  refine RL.gT rfl (bF ((fun h => h (by rfl)))) ?_
  refine RL.val rfl (run_move (v := .pointer none) rfl) ?_
  refine RL.gT rfl (bF ((fun h => h (by rfl)))) ?_
  refine RL.callP rfl hH21 (n_Mark _) (run_call1 Try.call20 rfl) ?_
  intro w23 hH24
  refine RL.gT rfl (bF ((fun h => h (by rfl)))) ?_
  refine RL.val rfl (run_neq rfl rfl) ?_
  refine RL.val rfl (run_pickF (bF ((fun h => h (by rfl)))) (v := B _) rfl) ?_
  refine RL.val rfl (run_move (v := B _) rfl) ?_
  refine RL.gT rfl (bF ((fun h => h (by rfl)))) ?_
  refine RL.val rfl (run_move (v := .pointer none) rfl) ?_
  refine RL.gT rfl (bF ((fun h => h (by rfl)))) ?_
  refine RL.val rfl (run_fieldAddr Try.underlying46 rfl (off := 1) rfl Try.sizeOf3 (by decide) rfl) ?_
  refine RL.gT rfl (bF ((fun h => h (by rfl)))) ?_
  refine RL.val rfl (run_ld Try.underlying3 rfl rfl (hH24.cell (i := 1) rfl (v := I _) rfl)) ?_
  refine RL.gT rfl (bF ((fun h => h (by rfl)))) ?_
  refine RL.callP rfl hH24 (n_Undo _ _) (run_call2 Try.call25 rfl rfl) ?_
  intro w26 hH27
  refine RL.val rfl (run_pickF (bF ((fun h => h (by rfl)))) (v := B _) rfl) ?_
  refine RL.nil ?_
  refine CW.condF rfl ?_
  refine CW.skip ?_
  refine CW.seq ?_
  refine CW.region ?_
  refine RL.new rfl hH27 (f := fun b => (.pointer (some ⟨b, 0, none⟩))) (run_alloc Try.zeroValue65) ?_
  intro b31 w29 hH30
  refine RL.nil ?_
  refine CW.seq ?_
  obtain ⟨Zf, hF, hN⟩ := FoZ.plain (T := FX) hH30
  have hH32 : Hp _ w29 (_ :: _ :: Zf) := hN
  refine CW.regionS (by kernel_rfl) hH32 (.cons_cons _ (.cons_cons _ (List.nil_sublist _))) ?_
  intro w33 hH34
  refine AN.take 1 rfl rfl (by kernel_rfl) (by kernel_rfl) (by kernel_rfl) (hH34.sub (.cons_cons _ (.cons_cons _ (List.nil_sublist _)))) (fun w hS => run_ldA (cs := [I _, I _, I _]) Try.underlying46 rfl rfl rfl (rangeAt_cells (hS.blk (i := 1) rfl))) ?_
  refine AN.two 0 6 (by kernel_rfl) ?_ ?_
  · refine AO.callF rfl gnone rfl hH34 (.cons_cons _ (.cons_cons _ (List.nil_sublist _))) (c_clearanceref21_New (Kw w)   _ (Le.trans (Le.refl _) hH34.kw)) (run_call0 Try.call14) ?_
    intro v37 w38 Z40 hH39 hp41
    have hH42 : Hp _ w38 (_ :: _ :: (Z40 ++ Zf)) := hH39.zin (L := [_, _]) (L' := Zf)
    have hH43 : Hp _ w38 (_ :: _ :: (Zf ++ Z40)) := Hp.sw2 (A := [_, _]) hH42
    obtain ⟨n44, rfl, nd45, nv46⟩ := hp41
    refine AN.two 2 6 (by kernel_rfl) ?_ ?_
    · refine AO.callT rfl gnone rfl (c_clearancelaw21_do _ _ _ _ _ Z40 _ _ _ (by omega) (by rw [← cs_len, nd45]; decide) (by rw [← now_cs (nv46).ne, nd45]; decide) _ hF nv46 (Hp.zdo (A := [_, _]) hH43)) (run_call3 Try.call15 rfl rfl rfl) (fun u w' ⟨_, Z', z', _, _, _, _, h⟩ => Hp.sub (L := _ :: _ :: (Z' ++ (z' ++ Z40))) (Hp.zdone (A := [_, _]) h) (.cons_cons _ (.cons_cons _ (List.nil_sublist _)))) ?_
      rintro _ w52 ⟨y49, Z50, z51, rfl, yc53, yv54, hF55, h56⟩
      have hH57 : Hp _ w52 (_ :: _ :: (Z50 ++ (z51 ++ Z40))) := (Hp.zdone (A := [_, _]) h56)
      have hdb : doB [[]] n44.cs o = true := by rw [nd45]; exact doB_same _ _
      have hyc : y49.cs = stepC [[]] o := yc53.trans (by rw [nd45])
      have e1 : (rwI (nowR y49).l).length = (nowC (stepC [[]] o)).length := by rw [rwI_len, ← now_cs yv54.ne, hyc]
      refine AN.take 3 rfl rfl (by kernel_rfl) (by kernel_rfl) (by kernel_rfl) (hH57.sub (.cons_cons _ (.cons_cons _ (List.nil_sublist _)))) (fun w hS => run_move (by conv => lhs; whnf)) ?_
      refine AN.take 4 rfl rfl (by kernel_rfl) (by kernel_rfl) (by kernel_rfl) (hH57.sub (.cons_cons _ (.cons_cons _ (List.nil_sublist _)))) (fun w hS => run_extract rfl (v := .agg _) rfl) ?_
      refine AN.take 5 rfl rfl (by kernel_rfl) (by kernel_rfl) (by kernel_rfl) (hH57.sub (.cons_cons _ (.cons_cons _ (List.nil_sublist _)))) (fun w hS => run_extract rfl (v := B _) rfl) ?_
      refine AN.one 6 (by kernel_rfl) ?_
      refine AO.new rfl gnone rfl hH57 (.cons_cons _ (.cons_cons _ (List.nil_sublist _))) (f := fun b => .pointer (some ⟨b, 0, none⟩)) (run_alloc Try.zeroValue43) ?_
      intro b61 w59 hH60
      refine AN.one 7 (by kernel_rfl) ?_
      refine AO.set rfl gnone hH60 (j := 0) rfl (.cons _ (.cons_cons _ (.cons_cons _ (List.nil_sublist _)))) (run_stW rfl rfl rfl yv54.one (hH60.blk (i := 0) rfl) rfl) ?_
      intro w64 hH65
      simp only [List.set_cons_zero, List.set_cons_succ] at hH65
      refine AN.take 8 rfl rfl (by kernel_rfl) (by kernel_rfl) (by kernel_rfl) (hH65.sub (.cons _ (.cons_cons _ (.cons_cons _ (List.nil_sublist _))))) (fun w hS => run_assign (v := B _) rfl) ?_
      refine AN.done (by kernel_rfl) ?_
      refine CW.seq ?_
      refine CW.regionD (by kernel_rfl) hH65 ?_
      intro w66 hH67
      refine AN.take 0 rfl rfl (by kernel_rfl) (by kernel_rfl) (by kernel_rfl) (hH67.sub (List.Sublist.refl _)) (fun w hS => run_move (v := B _) rfl) ?_
      refine AN.take 1 rfl rfl (by kernel_rfl) (by kernel_rfl) (by kernel_rfl) (hH67.sub (List.Sublist.refl _)) (fun w hS => run_move (v := B _) rfl) ?_
      refine AN.takeG 3 rfl rfl (bR (c := true) (hdb)) rfl (by kernel_rfl) (by kernel_rfl) (by kernel_rfl) (hH67.sub (List.Sublist.refl _)) (fun w hS => run_ldA (cs := [_]) Try.underlying43 rfl rfl rfl (rangeAt_cells (hS.blk (i := 0) rfl))) ?_
      refine AN.one 2 (by kernel_rfl) ?_
      refine AO.callP rfl (gsome rfl (bR (c := true) (hdb))) rfl hH67 (List.Sublist.refl _) (m_Len (by omega) hF55 hH67 (fun x hx => (List.mem_cons_of_mem _ (List.mem_cons_of_mem _ (List.mem_cons_of_mem _ (List.mem_append_left _ hx)))))) (run_call1 Try.call16 rfl) ?_
      intro w68 hH69
      refine AN.one 4 (by kernel_rfl) ?_
      refine AO.callP rfl (gsome rfl (bR (c := true) (hdb))) rfl hH69 (List.Sublist.refl _) (c_clearanceref21_Now _ _ (yv54.mono (hH69.kz (Le.refl _) (fun x hx => (List.mem_cons_of_mem _ (List.mem_cons_of_mem _ (List.mem_cons_of_mem _ (List.mem_append_right _ hx)))))))) (run_call1 Try.call17 rfl) ?_
      intro w70 hH71
      refine AN.takeG 5 rfl rfl (bR (c := true) (hdb)) rfl (by kernel_rfl) (by kernel_rfl) (by kernel_rfl) (hH71.sub (List.Sublist.refl _)) (fun w hS => run_lenSl ((yv54.now).mono (hS.kz (Le.refl _) (fun x hx => (List.mem_cons_of_mem _ (List.mem_cons_of_mem _ (List.mem_cons_of_mem _ (List.mem_append_right _ hx))))))).sl rfl Try.underlying37 rfl) ?_
      refine AN.takeG 6 rfl rfl (bR (c := true) (hdb)) rfl (by kernel_rfl) (by kernel_rfl) (by kernel_rfl) (hH71.sub (List.Sublist.refl _)) (fun w hS => run_eql rfl rfl) ?_
      refine AN.take 7 rfl rfl (by kernel_rfl) (by kernel_rfl) (by kernel_rfl) (hH71.sub (List.Sublist.refl _)) (fun w hS => run_pickT (bR (c := true) (hdb)) (v := B _) rfl) ?_
      refine AN.take 8 rfl rfl (by kernel_rfl) (by kernel_rfl) (by kernel_rfl) (hH71.sub (List.Sublist.refl _)) (fun w hS => run_move (v := B _) rfl) ?_
      refine AN.one 9 (by kernel_rfl) ?_
      refine AO.callP rfl (gsome rfl (bT ((by omega)))) rfl hH71 (List.Sublist.refl _) (c_clearancelaw21_alive   _) (run_call0 Try.call7) ?_
      intro w73 hH74
      refine AN.take 10 rfl rfl (by kernel_rfl) (by kernel_rfl) (by kernel_rfl) (hH74.sub (List.Sublist.refl _)) (fun w hS => run_pickT (bT ((by omega))) (v := B _) rfl) ?_
      refine AN.take 11 rfl rfl (by kernel_rfl) (by kernel_rfl) (by kernel_rfl) (hH74.sub (List.Sublist.refl _)) (fun w hS => run_assign (v := B _) rfl) ?_
      refine AN.done (by kernel_rfl) ?_
      refine CW.ret ?_
      refine outP1 Try.results6 (congrArg B ?_) hH74.below
      rfl
    · refine AO.new rfl gnone rfl hH43 (.cons_cons _ (.cons_cons _ (List.nil_sublist _))) (f := fun b => .pointer (some ⟨b, 0, none⟩)) (run_alloc Try.zeroValue43) ?_
      intro b78 w76 hH77
      refine AN.one 2 (by kernel_rfl) ?_
      refine AO.callT rfl gnone rfl (c_clearancelaw21_do _ _ _ _ _ Z40 _ _ _ (by omega) (by rw [← cs_len, nd45]; decide) (by rw [← now_cs (nv46).ne, nd45]; decide) _ hF nv46 (Hp.zdo (A := [_, _, _]) hH77)) (run_call3 Try.call15 rfl rfl rfl) (fun u w' ⟨_, Z', z', _, _, _, _, h⟩ => Hp.sub (L := _ :: _ :: _ :: (Z' ++ (z' ++ Z40))) (Hp.zdone (A := [_, _, _]) h) (.cons _ (.cons_cons _ (.cons_cons _ (List.nil_sublist _))))) ?_
      rintro _ w84 ⟨y81, Z82, z83, rfl, yc85, yv86, hF87, h88⟩
      have hH89 : Hp _ w84 (_ :: _ :: _ :: (Z82 ++ (z83 ++ Z40))) := (Hp.zdone (A := [_, _, _]) h88)
      have hdb : doB [[]] n44.cs o = true := by rw [nd45]; exact doB_same _ _
      have hyc : y81.cs = stepC [[]] o := yc85.trans (by rw [nd45])
      have e1 : (rwI (nowR y81).l).length = (nowC (stepC [[]] o)).length := by rw [rwI_len, ← now_cs yv86.ne, hyc]
      refine AN.take 3 rfl rfl (by kernel_rfl) (by kernel_rfl) (by kernel_rfl) (hH89.sub (.cons _ (.cons_cons _ (.cons_cons _ (List.nil_sublist _))))) (fun w hS => run_move (by conv => lhs; whnf)) ?_
      refine AN.take 4 rfl rfl (by kernel_rfl) (by kernel_rfl) (by kernel_rfl) (hH89.sub (.cons _ (.cons_cons _ (.cons_cons _ (List.nil_sublist _))))) (fun w hS => run_extract rfl (v := .agg _) rfl) ?_
      refine AN.take 5 rfl rfl (by kernel_rfl) (by kernel_rfl) (by kernel_rfl) (hH89.sub (.cons _ (.cons_cons _ (.cons_cons _ (List.nil_sublist _))))) (fun w hS => run_extract rfl (v := B _) rfl) ?_
      refine AN.one 7 (by kernel_rfl) ?_
      refine AO.set rfl gnone hH89 (j := 0) rfl (.cons _ (.cons_cons _ (.cons_cons _ (List.nil_sublist _)))) (run_stW rfl rfl rfl yv86.one (hH89.blk (i := 0) rfl) rfl) ?_
      intro w93 hH94
      simp only [List.set_cons_zero, List.set_cons_succ] at hH94
      refine AN.take 8 rfl rfl (by kernel_rfl) (by kernel_rfl) (by kernel_rfl) (hH94.sub (.cons _ (.cons_cons _ (.cons_cons _ (List.nil_sublist _))))) (fun w hS => run_assign (v := B _) rfl) ?_
      refine AN.done (by kernel_rfl) ?_
      refine CW.seq ?_
      refine CW.regionD (by kernel_rfl) hH94 ?_
      intro w95 hH96
      refine AN.take 0 rfl rfl (by kernel_rfl) (by kernel_rfl) (by kernel_rfl) (hH96.sub (List.Sublist.refl _)) (fun w hS => run_move (v := B _) rfl) ?_
      refine AN.take 1 rfl rfl (by kernel_rfl) (by kernel_rfl) (by kernel_rfl) (hH96.sub (List.Sublist.refl _)) (fun w hS => run_move (v := B _) rfl) ?_
      refine AN.takeG 3 rfl rfl (bR (c := true) (hdb)) rfl (by kernel_rfl) (by kernel_rfl) (by kernel_rfl) (hH96.sub (List.Sublist.refl _)) (fun w hS => run_ldA (cs := [_]) Try.underlying43 rfl rfl rfl (rangeAt_cells (hS.blk (i := 0) rfl))) ?_
      refine AN.one 2 (by kernel_rfl) ?_
      refine AO.callP rfl (gsome rfl (bR (c := true) (hdb))) rfl hH96 (List.Sublist.refl _) (m_Len (by omega) hF87 hH96 (fun x hx => (List.mem_cons_of_mem _ (List.mem_cons_of_mem _ (List.mem_cons_of_mem _ (List.mem_append_left _ hx)))))) (run_call1 Try.call16 rfl) ?_
      intro w97 hH98
      refine AN.one 4 (by kernel_rfl) ?_
      refine AO.callP rfl (gsome rfl (bR (c := true) (hdb))) rfl hH98 (List.Sublist.refl _) (c_clearanceref21_Now _ _ (yv86.mono (hH98.kz (Le.refl _) (fun x hx => (List.mem_cons_of_mem _ (List.mem_cons_of_mem _ (List.mem_cons_of_mem _ (List.mem_append_right _ hx)))))))) (run_call1 Try.call17 rfl) ?_
      intro w99 hH100
      refine AN.takeG 5 rfl rfl (bR (c := true) (hdb)) rfl (by kernel_rfl) (by kernel_rfl) (by kernel_rfl) (hH100.sub (List.Sublist.refl _)) (fun w hS => run_lenSl ((yv86.now).mono (hS.kz (Le.refl _) (fun x hx => (List.mem_cons_of_mem _ (List.mem_cons_of_mem _ (List.mem_cons_of_mem _ (List.mem_append_right _ hx))))))).sl rfl Try.underlying37 rfl) ?_
      refine AN.takeG 6 rfl rfl (bR (c := true) (hdb)) rfl (by kernel_rfl) (by kernel_rfl) (by kernel_rfl) (hH100.sub (List.Sublist.refl _)) (fun w hS => run_eql rfl rfl) ?_
      refine AN.take 7 rfl rfl (by kernel_rfl) (by kernel_rfl) (by kernel_rfl) (hH100.sub (List.Sublist.refl _)) (fun w hS => run_pickT (bR (c := true) (hdb)) (v := B _) rfl) ?_
      refine AN.take 8 rfl rfl (by kernel_rfl) (by kernel_rfl) (by kernel_rfl) (hH100.sub (List.Sublist.refl _)) (fun w hS => run_move (v := B _) rfl) ?_
      refine AN.one 9 (by kernel_rfl) ?_
      refine AO.callP rfl (gsome rfl (bT ((by omega)))) rfl hH100 (List.Sublist.refl _) (c_clearancelaw21_alive   _) (run_call0 Try.call7) ?_
      intro w102 hH103
      refine AN.take 10 rfl rfl (by kernel_rfl) (by kernel_rfl) (by kernel_rfl) (hH103.sub (List.Sublist.refl _)) (fun w hS => run_pickT (bT ((by omega))) (v := B _) rfl) ?_
      refine AN.take 11 rfl rfl (by kernel_rfl) (by kernel_rfl) (by kernel_rfl) (hH103.sub (List.Sublist.refl _)) (fun w hS => run_assign (v := B _) rfl) ?_
      refine AN.done (by kernel_rfl) ?_
      refine CW.ret ?_
      refine outP1 Try.results6 (congrArg B ?_) hH103.below
      rfl
  · refine AO.new rfl gnone rfl hH34 (.cons_cons _ (.cons_cons _ (List.nil_sublist _))) (f := fun b => .pointer (some ⟨b, 0, none⟩)) (run_alloc Try.zeroValue43) ?_
    intro b107 w105 hH106
    refine AN.one 0 (by kernel_rfl) ?_
    refine AO.callF rfl gnone rfl hH106 (.cons _ (.cons_cons _ (.cons_cons _ (List.nil_sublist _)))) (c_clearanceref21_New (Kw w)   _ (Le.trans (Le.refl _) hH106.kw)) (run_call0 Try.call14) ?_
    intro v110 w111 Z113 hH112 hp114
    have hH115 : Hp _ w111 (_ :: _ :: _ :: (Z113 ++ Zf)) := hH112.zin (L := [_, _, _]) (L' := Zf)
    have hH116 : Hp _ w111 (_ :: _ :: _ :: (Zf ++ Z113)) := Hp.sw2 (A := [_, _, _]) hH115
    obtain ⟨n117, rfl, nd118, nv119⟩ := hp114
    refine AN.one 2 (by kernel_rfl) ?_
    refine AO.callT rfl gnone rfl (c_clearancelaw21_do _ _ _ _ _ Z113 _ _ _ (by omega) (by rw [← cs_len, nd118]; decide) (by rw [← now_cs (nv119).ne, nd118]; decide) _ hF nv119 (Hp.zdo (A := [_, _, _]) hH116)) (run_call3 Try.call15 rfl rfl rfl) (fun u w' ⟨_, Z', z', _, _, _, _, h⟩ => Hp.sub (L := _ :: _ :: _ :: (Z' ++ (z' ++ Z113))) (Hp.zdone (A := [_, _, _]) h) (.cons _ (.cons_cons _ (.cons_cons _ (List.nil_sublist _))))) ?_
    rintro _ w125 ⟨y122, Z123, z124, rfl, yc126, yv127, hF128, h129⟩
    have hH130 : Hp _ w125 (_ :: _ :: _ :: (Z123 ++ (z124 ++ Z113))) := (Hp.zdone (A := [_, _, _]) h129)
    have hdb : doB [[]] n117.cs o = true := by rw [nd118]; exact doB_same _ _
    have hyc : y122.cs = stepC [[]] o := yc126.trans (by rw [nd118])
    have e1 : (rwI (nowR y122).l).length = (nowC (stepC [[]] o)).length := by rw [rwI_len, ← now_cs yv127.ne, hyc]
    refine AN.take 3 rfl rfl (by kernel_rfl) (by kernel_rfl) (by kernel_rfl) (hH130.sub (.cons _ (.cons_cons _ (.cons_cons _ (List.nil_sublist _))))) (fun w hS => run_move (by conv => lhs; whnf)) ?_
    refine AN.take 4 rfl rfl (by kernel_rfl) (by kernel_rfl) (by kernel_rfl) (hH130.sub (.cons _ (.cons_cons _ (.cons_cons _ (List.nil_sublist _))))) (fun w hS => run_extract rfl (v := .agg _) rfl) ?_
    refine AN.take 5 rfl rfl (by kernel_rfl) (by kernel_rfl) (by kernel_rfl) (hH130.sub (.cons _ (.cons_cons _ (.cons_cons _ (List.nil_sublist _))))) (fun w hS => run_extract rfl (v := B _) rfl) ?_
    refine AN.one 7 (by kernel_rfl) ?_
    refine AO.set rfl gnone hH130 (j := 0) rfl (.cons _ (.cons_cons _ (.cons_cons _ (List.nil_sublist _)))) (run_stW rfl rfl rfl yv127.one (hH130.blk (i := 0) rfl) rfl) ?_
    intro w134 hH135
    simp only [List.set_cons_zero, List.set_cons_succ] at hH135
    refine AN.take 8 rfl rfl (by kernel_rfl) (by kernel_rfl) (by kernel_rfl) (hH135.sub (.cons _ (.cons_cons _ (.cons_cons _ (List.nil_sublist _))))) (fun w hS => run_assign (v := B _) rfl) ?_
    refine AN.done (by kernel_rfl) ?_
    refine CW.seq ?_
    refine CW.regionD (by kernel_rfl) hH135 ?_
    intro w136 hH137
    refine AN.take 0 rfl rfl (by kernel_rfl) (by kernel_rfl) (by kernel_rfl) (hH137.sub (List.Sublist.refl _)) (fun w hS => run_move (v := B _) rfl) ?_
    refine AN.take 1 rfl rfl (by kernel_rfl) (by kernel_rfl) (by kernel_rfl) (hH137.sub (List.Sublist.refl _)) (fun w hS => run_move (v := B _) rfl) ?_
    refine AN.takeG 3 rfl rfl (bR (c := true) (hdb)) rfl (by kernel_rfl) (by kernel_rfl) (by kernel_rfl) (hH137.sub (List.Sublist.refl _)) (fun w hS => run_ldA (cs := [_]) Try.underlying43 rfl rfl rfl (rangeAt_cells (hS.blk (i := 0) rfl))) ?_
    refine AN.one 2 (by kernel_rfl) ?_
    refine AO.callP rfl (gsome rfl (bR (c := true) (hdb))) rfl hH137 (List.Sublist.refl _) (m_Len (by omega) hF128 hH137 (fun x hx => (List.mem_cons_of_mem _ (List.mem_cons_of_mem _ (List.mem_cons_of_mem _ (List.mem_append_left _ hx)))))) (run_call1 Try.call16 rfl) ?_
    intro w138 hH139
    refine AN.one 4 (by kernel_rfl) ?_
    refine AO.callP rfl (gsome rfl (bR (c := true) (hdb))) rfl hH139 (List.Sublist.refl _) (c_clearanceref21_Now _ _ (yv127.mono (hH139.kz (Le.refl _) (fun x hx => (List.mem_cons_of_mem _ (List.mem_cons_of_mem _ (List.mem_cons_of_mem _ (List.mem_append_right _ hx)))))))) (run_call1 Try.call17 rfl) ?_
    intro w140 hH141
    refine AN.takeG 5 rfl rfl (bR (c := true) (hdb)) rfl (by kernel_rfl) (by kernel_rfl) (by kernel_rfl) (hH141.sub (List.Sublist.refl _)) (fun w hS => run_lenSl ((yv127.now).mono (hS.kz (Le.refl _) (fun x hx => (List.mem_cons_of_mem _ (List.mem_cons_of_mem _ (List.mem_cons_of_mem _ (List.mem_append_right _ hx))))))).sl rfl Try.underlying37 rfl) ?_
    refine AN.takeG 6 rfl rfl (bR (c := true) (hdb)) rfl (by kernel_rfl) (by kernel_rfl) (by kernel_rfl) (hH141.sub (List.Sublist.refl _)) (fun w hS => run_eql rfl rfl) ?_
    refine AN.take 7 rfl rfl (by kernel_rfl) (by kernel_rfl) (by kernel_rfl) (hH141.sub (List.Sublist.refl _)) (fun w hS => run_pickT (bR (c := true) (hdb)) (v := B _) rfl) ?_
    refine AN.take 8 rfl rfl (by kernel_rfl) (by kernel_rfl) (by kernel_rfl) (hH141.sub (List.Sublist.refl _)) (fun w hS => run_move (v := B _) rfl) ?_
    refine AN.one 9 (by kernel_rfl) ?_
    refine AO.callP rfl (gsome rfl (bT ((by omega)))) rfl hH141 (List.Sublist.refl _) (c_clearancelaw21_alive   _) (run_call0 Try.call7) ?_
    intro w143 hH144
    refine AN.take 10 rfl rfl (by kernel_rfl) (by kernel_rfl) (by kernel_rfl) (hH144.sub (List.Sublist.refl _)) (fun w hS => run_pickT (bT ((by omega))) (v := B _) rfl) ?_
    refine AN.take 11 rfl rfl (by kernel_rfl) (by kernel_rfl) (by kernel_rfl) (hH144.sub (List.Sublist.refl _)) (fun w hS => run_assign (v := B _) rfl) ?_
    refine AN.done (by kernel_rfl) ?_
    refine CW.ret ?_
    refine outP1 Try.results6 (congrArg B ?_) hH144.below
    rfl
end Go.Proofs.Ytphknfjaellkjaa.W
