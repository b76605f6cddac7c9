/-
  The walks of the functions that the laws of this seat reach, part 2: each returns what its plain counterpart tells, and turns nothing that was there.
-/
import Derived.Test.YtphknfjaellkjaaProg
import Derived.Test.YtphknfjaellkjaaEnv
import Derived.Test.YtphknfjaellkjaaPlain
import Derived.Test.YtphknfjaellkjaaBase
import Derived.WalkKit
import Derived.Ground.NamesProg
import Derived.Shelf.Slices.In.SortNone
import Derived.Sort.EveryDepth
import Derived.Sort.OwnSortedInts
import Derived.Test.YtphknfjaellkjaaOrd
import Derived.Test.YtphknfjaellkjaaRel
import Derived.Test.YtphknfjaellkjaaClo
import Derived.Test.YtphknfjaellkjaaCov
import Derived.Test.YtphknfjaellkjaaArr
import Derived.Test.YtphknfjaellkjaaHas
import Derived.Test.YtphknfjaellkjaaStr
import Derived.Test.YtphknfjaellkjaaVu
import Derived.Test.YtphknfjaellkjaaGrd
import Derived.Test.YtphknfjaellkjaaShp
import Derived.Test.YtphknfjaellkjaaShq
import Derived.Test.YtphknfjaellkjaaCut
import Derived.Test.YtphknfjaellkjaaRec
import Derived.Test.YtphknfjaellkjaaScp
import Derived.Test.YtphknfjaellkjaaByt
import Derived.Test.YtphknfjaellkjaaNod
import Derived.Test.YtphknfjaellkjaaSpl
import Derived.Test.YtphknfjaellkjaaSpt
import Derived.Test.YtphknfjaellkjaaSpn
import Derived.Test.YtphknfjaellkjaaSpx
import Derived.Test.YtphknfjaellkjaaSpy
import Derived.Test.YtphknfjaellkjaaAsn
import Derived.Test.YtphknfjaellkjaaAsp
import Derived.Test.YtphknfjaellkjaaMk
import Derived.Test.YtphknfjaellkjaaAsr
import Derived.Test.YtphknfjaellkjaaAst
import Derived.Test.YtphknfjaellkjaaGap
import Derived.Test.YtphknfjaellkjaaFst
import Derived.Test.YtphknfjaellkjaaFsu
import Derived.Test.YtphknfjaellkjaaFsv
import Derived.Test.YtphknfjaellkjaaFsx
import Derived.Test.YtphknfjaellkjaaCel
import Derived.Test.YtphknfjaellkjaaFsw
import Derived.Test.YtphknfjaellkjaaFor
import Derived.Test.YtphknfjaellkjaaFov
import Derived.Test.YtphknfjaellkjaaRch
import Derived.Test.YtphknfjaellkjaaForestBackPacesA
namespace Go.Proofs.Ytphknfjaellkjaa.W
open Go Go.RowKit Go.Proofs.Ytphknfjaellkjaa.E Go.Proofs.Ytphknfjaellkjaa.M
set_option linter.unusedVariables false
set_option linter.unusedSimpArgs false
set_option maxRecDepth 100000
theorem c_clearanceref21_Undo (K : Vu) (x : RFo) (m : Int) (hn : x.rs.length ≤ 100000) (w : World) (hK : Le K (Kw w)) (hx : FoV K x) : Calls Try.prog 35 #[.agg #[x.v], I m] w (PureF K (fun K' u => ∃ y : RFo, u = .tuple #[.agg #[y.v], B (undoC x.cs m).2] ∧ y.cs = (undoC x.cs m).1 ∧ FoV K' y) w) := by
  have hne := hx.ne
  have hsm := hx.small
  have hnc := now_cs hx.ne
  refine enter Try.func35 rfl Try.ntmps35 rfl ?_
  have hH := Hp.start w
  refine CW.seq ?_
  refine CW.region ?_
  refine RL.new rfl hH (f := fun b => (.pointer (some ⟨b, 0, none⟩))) (run_box (v := .agg _) rfl) ?_
  intro b3 w1 hH2
  refine RL.new rfl hH2 (f := fun b => (.pointer (some ⟨b, 0, none⟩))) (run_alloc Try.zeroValue43) ?_
  intro b6 w4 hH5
  refine RL.val rfl (run_assign (v := B false) rfl) ?_
  refine RL.nil ?_
  refine CW.seq ?_
  refine CW.seq ?_
  refine CW.region ?_
  refine RL.val rfl (run_move (v := I _) rfl) ?_
  refine RL.val rfl (run_lss rfl rfl) ?_
  refine RL.nil ?_
  refine CW.condP rfl (fun h8 => ?_) (fun h8 => ?_)
  · refine CW.region ?_
    refine RL.val rfl (run_assign (v := I 0) rfl) ?_
    refine RL.nil ?_
    refine CW.seq ?_
    refine CW.seq ?_
    refine CW.region ?_
    refine RL.val rfl (run_move (v := I _) rfl) ?_
    refine RL.val rfl (run_fieldAddr Try.underlying43 rfl (off := 0) rfl Try.sizeOf41 (by decide) rfl) ?_
    refine RL.val rfl (run_ld Try.underlying41 rfl rfl (hH5.cell (i := 1) rfl rfl)) ?_
    refine RL.val rfl (run_lenSl ((hx.sl0).mono (Le.trans hK hH5.kw)).sl rfl Try.underlying41 rfl) ?_
    refine RL.val rfl (run_geq rfl rfl) ?_
    refine RL.nil ?_
    refine CW.condP rfl (fun h10 => ?_) (fun h10 => ?_)
    · refine CW.seq ?_
      refine CW.region ?_
      refine RL.val rfl (run_ldA (cs := [_]) Try.underlying43 rfl rfl rfl (rangeAt_cells (hH5.blk (i := 1) rfl))) ?_
      refine RL.set hH5 (i := 0) rfl (run_stW rfl rfl rfl hx.one (hH5.blk (i := 0) rfl) rfl) ?_
      intro w11 hH12
      simp only [List.set_cons_zero, List.set_cons_succ] at hH12
      refine RL.val rfl (run_assign (v := B false) rfl) ?_
      refine RL.nil ?_
      refine CW.ret ?_
      refine outCT Try.results35 rfl rfl hH12 (i := 0) rfl Try.underlying43 rfl rfl ⟨[], (hH12.sub (.cons _ (.cons _ (List.Sublist.refl _)))), x, (by rw [undo_no hne (by omega)]; rfl), ?_, ?_⟩
      · rw [undo_no hne (by omega)]
      · exact hx.mono (Le.z _ _)
    · refine CW.skip ?_
      refine CW.seq ?_
      refine CW.region ?_
      refine RL.new rfl hH5 (f := fun b => (.slice (some ⟨b, 0, none⟩) 0 0)) (run_mkE Try.underlying41 Try.sizeOf37) ?_
      intro b15 w13 hH14
      (try simp only [List.flatMap_cons, List.flatMap_nil, clI, clB, clS, clP, clL, clA, List.append_nil, List.cons_append, List.nil_append] at hH14)
      have hH16 := hH14.blkRow 0 1 rfl (by decide)
      refine RL.val rfl (run_fieldAddr Try.underlying43 rfl (off := 0) rfl Try.sizeOf41 (by decide) rfl) ?_
      refine RL.val rfl (run_ld Try.underlying41 rfl rfl (hH16.cell (i := 2) rfl rfl)) ?_
      refine RL.val rfl (run_move (v := I _) rfl) ?_
      refine RL.val rfl (run_add rfl rfl (by omega)) ?_
      refine RL.val rfl (run_cut ((hx.sl0).mono (Le.trans hK hH16.kw)).sl Try.underlying41 Try.sizeOf37 rfl rfl (by omega)) ?_
      refine RL.app rfl hH16 (i := 0) rfl (((hx.sl0).mono (Le.trans hK hH16.kw)).sl.cut _ (by omega)) rfl rfl Try.underlying41 rfl rfl (size := 1) (bytes := 24) rfl rfl rfl (by decide) (by rw [Nat.mul_one]; exact rws_one hx) (by omega) (by simp only [maxLen]; omega) ?_
      intro v17 w18 hH19
      simp only [List.set_cons_zero, List.set_cons_succ] at hH19
      obtain ⟨Z20, hz21, hv22, -⟩ := hH19.frz (K)
      have hH23 : Hp _ w18 (_ :: _ :: Z20) := hz21.zin0 (L := [_, _])
      have hy24 : FoV (Kz K Z20) ⟨v17, x.rs.take ((max 0 m).toNat + 1)⟩ := hx.take_ hv22 (by omega) (by rw [Nat.mul_one, List.nil_append]; congr 1; omega) (by omega)
      refine RL.val rfl (run_bld (vs := [(0, v17)]) rfl (built_rfo (one_slice hv22).2)) ?_
      refine RL.set hH23 (i := 0) rfl (run_stW rfl rfl rfl hy24.one (hH23.blk (i := 0) rfl) rfl) ?_
      intro w25 hH26
      simp only [List.set_cons_zero, List.set_cons_succ] at hH26
      refine RL.val rfl (run_assign (v := B true) rfl) ?_
      refine RL.nil ?_
      refine CW.ret ?_
      refine outCT Try.results35 rfl rfl hH26 (i := 0) rfl Try.underlying43 rfl rfl ⟨Z20, (hH26.sub (.cons _ (.cons _ (List.Sublist.refl _)))), ⟨v17, x.rs.take ((max 0 m).toNat + 1)⟩, (by rw [undo_yes (by omega)]; rfl), ?_, ?_⟩
      · rw [undo_yes (by omega), cs_take]
      · exact hy24
  · refine CW.skip ?_
    refine CW.seq ?_
    refine CW.seq ?_
    refine CW.region ?_
    refine RL.val rfl (run_move (v := I _) rfl) ?_
    refine RL.val rfl (run_fieldAddr Try.underlying43 rfl (off := 0) rfl Try.sizeOf41 (by decide) rfl) ?_
    refine RL.val rfl (run_ld Try.underlying41 rfl rfl (hH5.cell (i := 1) rfl rfl)) ?_
    refine RL.val rfl (run_lenSl ((hx.sl0).mono (Le.trans hK hH5.kw)).sl rfl Try.underlying41 rfl) ?_
    refine RL.val rfl (run_geq rfl rfl) ?_
    refine RL.nil ?_
    refine CW.condP rfl (fun h28 => ?_) (fun h28 => ?_)
    · refine CW.seq ?_
      refine CW.region ?_
      refine RL.val rfl (run_ldA (cs := [_]) Try.underlying43 rfl rfl rfl (rangeAt_cells (hH5.blk (i := 1) rfl))) ?_
      refine RL.set hH5 (i := 0) rfl (run_stW rfl rfl rfl hx.one (hH5.blk (i := 0) rfl) rfl) ?_
      intro w29 hH30
      simp only [List.set_cons_zero, List.set_cons_succ] at hH30
      refine RL.val rfl (run_assign (v := B false) rfl) ?_
      refine RL.nil ?_
      refine CW.ret ?_
      refine outCT Try.results35 rfl rfl hH30 (i := 0) rfl Try.underlying43 rfl rfl ⟨[], (hH30.sub (.cons _ (.cons _ (List.Sublist.refl _)))), x, (by rw [undo_no hne (by omega)]; rfl), ?_, ?_⟩
      · rw [undo_no hne (by omega)]
      · exact hx.mono (Le.z _ _)
    · refine CW.skip ?_
      refine CW.seq ?_
      refine CW.region ?_
      refine RL.new rfl hH5 (f := fun b => (.slice (some ⟨b, 0, none⟩) 0 0)) (run_mkE Try.underlying41 Try.sizeOf37) ?_
      intro b33 w31 hH32
      (try simp only [List.flatMap_cons, List.flatMap_nil, clI, clB, clS, clP, clL, clA, List.append_nil, List.cons_append, List.nil_append] at hH32)
      have hH34 := hH32.blkRow 0 1 rfl (by decide)
      refine RL.val rfl (run_fieldAddr Try.underlying43 rfl (off := 0) rfl Try.sizeOf41 (by decide) rfl) ?_
      refine RL.val rfl (run_ld Try.underlying41 rfl rfl (hH34.cell (i := 2) rfl rfl)) ?_
      refine RL.val rfl (run_move (v := I _) rfl) ?_
      refine RL.val rfl (run_add rfl rfl (by omega)) ?_
      refine RL.val rfl (run_cut ((hx.sl0).mono (Le.trans hK hH34.kw)).sl Try.underlying41 Try.sizeOf37 rfl rfl (by omega)) ?_
      refine RL.app rfl hH34 (i := 0) rfl (((hx.sl0).mono (Le.trans hK hH34.kw)).sl.cut _ (by omega)) rfl rfl Try.underlying41 rfl rfl (size := 1) (bytes := 24) rfl rfl rfl (by decide) (by rw [Nat.mul_one]; exact rws_one hx) (by omega) (by simp only [maxLen]; omega) ?_
      intro v35 w36 hH37
      simp only [List.set_cons_zero, List.set_cons_succ] at hH37
      obtain ⟨Z38, hz39, hv40, -⟩ := hH37.frz (K)
      have hH41 : Hp _ w36 (_ :: _ :: Z38) := hz39.zin0 (L := [_, _])
      have hy42 : FoV (Kz K Z38) ⟨v35, x.rs.take ((max 0 m).toNat + 1)⟩ := hx.take_ hv40 (by omega) (by rw [Nat.mul_one, List.nil_append]; congr 1; omega) (by omega)
      refine RL.val rfl (run_bld (vs := [(0, v35)]) rfl (built_rfo (one_slice hv40).2)) ?_
      refine RL.set hH41 (i := 0) rfl (run_stW rfl rfl rfl hy42.one (hH41.blk (i := 0) rfl) rfl) ?_
      intro w43 hH44
      simp only [List.set_cons_zero, List.set_cons_succ] at hH44
      refine RL.val rfl (run_assign (v := B true) rfl) ?_
      refine RL.nil ?_
      refine CW.ret ?_
      refine outCT Try.results35 rfl rfl hH44 (i := 0) rfl Try.underlying43 rfl rfl ⟨Z38, (hH44.sub (.cons _ (.cons _ (List.Sublist.refl _)))), ⟨v35, x.rs.take ((max 0 m).toNat + 1)⟩, (by rw [undo_yes (by omega)]; rfl), ?_, ?_⟩
      · rw [undo_yes (by omega), cs_take]
      · exact hy42
theorem c_forest_New  (w : World) : Calls Try.prog 8 #[] w (Ret fun u w' => ∃ (F : Nat) (Z : List Ent), u = .pointer (some ⟨F, 0, none⟩) ∧ Hp w w' Z ∧ FoZ FX F 0 [[]] Z) := by
  refine enter Try.func8 rfl Try.ntmps8 rfl ?_
  have hH := Hp.start w
  refine CW.seq ?_
  refine CW.region ?_
  refine RL.val rfl (run_assign (v := .pointer none) rfl) ?_
  refine RL.nil ?_
  refine CW.seq ?_
  refine CW.region ?_
  refine RL.val rfl (run_bld (cells := #[.slice none 0 0, .slice none 0 0, .slice none 0 0, I 0]) (vs := []) rfl rfl) ?_
  refine RL.new rfl hH (f := fun b => (.pointer (some ⟨b, 0, none⟩))) (run_box (v := .agg _) rfl) ?_
  intro b3 w1 hH2
  refine RL.val rfl (run_assign (v := .pointer (some ⟨_, _, none⟩)) rfl) ?_
  refine RL.nil ?_
  refine CW.ret ?_
  have hN := ((hH2.nilRow 3 1).nilRow 1 1).nilRow 28 1
  exact out1 Try.results8 (v := .pointer (some ⟨b3, 0, none⟩)) rfl ⟨b3, _, rfl, hN.perm (List.perm_append_comm (l₁ := [_, _, _]) (l₂ := [_])), FoZ.new⟩
theorem c_clearancelaw21_do (W0 : World) (F m : Nat) (cs : List (List Nat)) (Zf R A : List Ent) (x : RFo) (o : OpR) (hm : m ≤ 10000) (hn : x.rs.length ≤ 100000) (hb : (nowR x).l.length ≤ 1000000) (w : World) (hF : FoZ FX F m cs Zf) (hx : FoV (Kz (Kw W0) R) x) (hH : Hp W0 w (Zf ++ (R ++ A))) : Calls Try.prog 15 #[.pointer (some ⟨F, 0, none⟩), .agg #[x.v], .agg (opL o).toArray] w (Ret fun u w' => ∃ (y : RFo) (Z' z : List Ent), u = .tuple #[.agg #[y.v], B (doB cs x.cs o)] ∧ y.cs = stepC x.cs o ∧ FoV (Kz (Kw W0) (z ++ R)) y ∧ FoZ FX F (m + 1) (stepC cs o) Z' ∧ Hp W0 w' (Z' ++ (z ++ (R ++ A)))) := by
  refine enter Try.func15 rfl Try.ntmps15 rfl ?_
  refine CW.seq ?_
  refine CW.region ?_
  refine RL.new rfl hH (f := fun b => (.pointer (some ⟨b, 0, none⟩))) (run_box (v := .agg _) rfl) ?_
  intro b3 w1 hH2
  refine RL.new rfl hH2 (f := fun b => (.pointer (some ⟨b, 0, none⟩))) (run_box (v := .agg _) rfl) ?_
  intro b6 w4 hH5
  refine RL.new rfl hH5 (f := fun b => (.pointer (some ⟨b, 0, none⟩))) (run_alloc Try.zeroValue43) ?_
  intro b9 w7 hH8
  refine RL.val rfl (run_assign (v := B false) rfl) ?_
  refine RL.nil ?_
  refine CW.seq ?_
  refine CW.seq ?_
  refine CW.region ?_
  refine RL.val rfl (run_fieldAddr Try.underlying46 rfl (off := 0) rfl Try.sizeOf3 (by decide) rfl) ?_
  refine RL.val rfl (run_ld Try.underlying3 rfl rfl (hH8.cell (i := 1) rfl (v := I _) rfl)) ?_
  refine RL.nil ?_
  refine CW.block ?_
  refine CW.seq ?_
  refine CW.region ?_
  refine RL.val rfl (run_eql rfl rfl) ?_
  refine RL.val rfl (run_assign (v := B _) rfl) ?_
  refine RL.nil ?_
  refine CW.condP rfl (fun h11 => ?_) (fun h11 => ?_)
  · refine CW.seq ?_
    refine CW.region ?_
    refine RL.val rfl (run_ldA (cs := [_]) Try.underlying43 rfl rfl rfl (rangeAt_cells (hH8.blk (i := 2) rfl))) ?_
    refine RL.val rfl (run_fieldAddr Try.underlying46 rfl (off := 1) rfl Try.sizeOf3 (by decide) rfl) ?_
    refine RL.val rfl (run_ld Try.underlying3 rfl rfl (hH8.cell (i := 1) rfl (v := I _) rfl)) ?_
    refine RL.val rfl (run_fieldAddr Try.underlying46 rfl (off := 2) rfl Try.sizeOf3 (by decide) rfl) ?_
    refine RL.val rfl (run_ld Try.underlying3 rfl rfl (hH8.cell (i := 1) rfl (v := I _) rfl)) ?_
    refine RL.callF rfl hH8 (c_clearanceref21_Union (Kz (Kw W0) R) _ _ _ (by assumption) (by assumption) _ (hH8.kz (Le.refl _) (fun x hx => (List.mem_cons_of_mem _ (List.mem_cons_of_mem _ (List.mem_cons_of_mem _ (List.mem_append_right _ (List.mem_append_left _ hx))))))) hx) (run_call3 Try.call34 rfl rfl rfl) ?_
    intro v14 w15 Z17 hH16 hp18
    have hH19 : Hp _ w15 (_ :: _ :: _ :: (Z17 ++ (Zf ++ (R ++ A)))) := hH16.zin (L := [_, _, _]) (L' := (Zf ++ (R ++ A)))
    have hH21 : Hp _ w15 (_ :: _ :: _ :: (Zf ++ (Z17 ++ (R ++ A)))) := Hp.swz (A := [_, _, _]) hH19
    obtain ⟨n22, rfl, nd23, nv24⟩ := hp18
    refine RL.val rfl (run_move (by conv => lhs; whnf)) ?_
    refine RL.val rfl (run_extract rfl (v := .agg _) rfl) ?_
    refine RL.val rfl (run_extract rfl (v := B _) rfl) ?_
    refine RL.new rfl hH21 (f := fun b => (.pointer (some ⟨b, 0, none⟩))) (run_alloc Try.zeroValue43) ?_
    intro b28 w26 hH27
    refine RL.set hH27 (i := 0) rfl (run_stW rfl rfl rfl (nv24.mono Le.kk).one (hH27.blk (i := 0) rfl) rfl) ?_
    intro w29 hH30
    simp only [List.set_cons_zero, List.set_cons_succ] at hH30
    refine RL.val rfl (run_assign (v := B _) rfl) ?_
    refine RL.nil ?_
    refine CW.seq ?_
    refine CW.regionS (by kernel_rfl) hH30 (.cons_cons _ (.cons _ (.cons_cons _ (.cons_cons _ (List.sublist_append_of_sublist_right (List.Sublist.refl _)))))) ?_
    intro w31 hH32
    refine AN.take 0 rfl rfl (by kernel_rfl) (by kernel_rfl) (by kernel_rfl) (hH32.sub (.cons_cons _ (.cons _ (.cons_cons _ (.cons_cons _ (List.sublist_append_of_sublist_right (List.Sublist.refl _))))))) (fun w hS => run_ldA (cs := [_]) Try.underlying43 rfl rfl rfl (rangeAt_cells (hS.blk (i := 0) rfl))) ?_
    refine AN.take 1 rfl rfl (by kernel_rfl) (by kernel_rfl) (by kernel_rfl) (hH32.sub (.cons_cons _ (.cons _ (.cons_cons _ (.cons_cons _ (List.sublist_append_of_sublist_right (List.Sublist.refl _))))))) (fun w hS => run_move (v := .pointer (some ⟨_, _, none⟩)) rfl) ?_
    refine AN.take 2 rfl rfl (by kernel_rfl) (by kernel_rfl) (by kernel_rfl) (hH32.sub (.cons_cons _ (.cons _ (.cons_cons _ (.cons_cons _ (List.sublist_append_of_sublist_right (List.Sublist.refl _))))))) (fun w hS => run_fieldAddr Try.underlying46 rfl (off := 1) rfl Try.sizeOf3 (by decide) rfl) ?_
    refine AN.take 3 rfl rfl (by kernel_rfl) (by kernel_rfl) (by kernel_rfl) (hH32.sub (.cons_cons _ (.cons _ (.cons_cons _ (.cons_cons _ (List.sublist_append_of_sublist_right (List.Sublist.refl _))))))) (fun w hS => run_ld Try.underlying3 rfl rfl (hS.cell (i := 1) rfl (v := I _) rfl)) ?_
    refine AN.take 4 rfl rfl (by kernel_rfl) (by kernel_rfl) (by kernel_rfl) (hH32.sub (.cons_cons _ (.cons _ (.cons_cons _ (.cons_cons _ (List.sublist_append_of_sublist_right (List.Sublist.refl _))))))) (fun w hS => run_fieldAddr Try.underlying46 rfl (off := 2) rfl Try.sizeOf3 (by decide) rfl) ?_
    refine AN.take 5 rfl rfl (by kernel_rfl) (by kernel_rfl) (by kernel_rfl) (hH32.sub (.cons_cons _ (.cons _ (.cons_cons _ (.cons_cons _ (List.sublist_append_of_sublist_right (List.Sublist.refl _))))))) (fun w hS => run_ld Try.underlying3 rfl rfl (hS.cell (i := 1) rfl (v := I _) rfl)) ?_
    refine AN.take 7 rfl rfl (by kernel_rfl) (by kernel_rfl) (by kernel_rfl) (hH32.sub (.cons_cons _ (.cons _ (.cons_cons _ (.cons_cons _ (List.sublist_append_of_sublist_right (List.Sublist.refl _))))))) (fun w hS => run_move (v := B _) rfl) ?_
    refine AN.one 6 (by kernel_rfl) ?_
    refine AO.callT rfl gnone rfl (m_Union _ _ (by omega) hF (Hp.zfront (A := [_, _, _, _]) hH32)) (run_call3 Try.call10 rfl rfl rfl) (fun u w' ⟨_, Z', _, h⟩ => Hp.sub (L := _ :: _ :: _ :: _ :: (Z' ++ (Z17 ++ (R ++ A)))) (Hp.zback (A := [_, _, _, _]) h) (.cons_cons _ (.cons _ (.cons_cons _ (.cons_cons _ (List.sublist_append_of_sublist_right (List.Sublist.refl _))))))) ?_
    rintro _ w35 ⟨rfl, Z36, hF37, h38⟩
    have hH39 : Hp _ w35 (_ :: _ :: _ :: _ :: (Z36 ++ (Z17 ++ (R ++ A)))) := (Hp.zback (A := [_, _, _, _]) h38)
    refine AN.take 8 rfl rfl (by kernel_rfl) (by kernel_rfl) (by kernel_rfl) (hH39.sub (.cons_cons _ (.cons _ (.cons_cons _ (.cons_cons _ (List.sublist_append_of_sublist_right (List.Sublist.refl _))))))) (fun w hS => run_eqlB Try.underlying4 rfl rfl) ?_
    refine AN.one 9 (by kernel_rfl) ?_
    refine AO.set rfl gnone hH39 (j := 1) rfl (.cons_cons _ (.cons _ (.cons_cons _ (.cons_cons _ (List.sublist_append_of_sublist_right (List.Sublist.refl _)))))) (run_stW rfl rfl rfl (nv24.mono Le.kk).one (hH39.blk (i := 1) rfl) rfl) ?_
    intro w44 hH45
    simp only [List.set_cons_zero, List.set_cons_succ] at hH45
    refine AN.take 10 rfl rfl (by kernel_rfl) (by kernel_rfl) (by kernel_rfl) (hH45.sub (.cons_cons _ (.cons _ (.cons_cons _ (.cons_cons _ (List.sublist_append_of_sublist_right (List.Sublist.refl _))))))) (fun w hS => run_assign (v := B _) rfl) ?_
    refine AN.done (by kernel_rfl) ?_
    refine CW.ret ?_
    obtain ⟨d1, d2, d3⟩ : doB cs x.cs o = _ ∧ stepC cs o = _ ∧ stepC x.cs o = _ := do_1 ‹_›
    exact outCT Try.results15 rfl rfl hH45 (i := 1) rfl Try.underlying43 rfl rfl ⟨n22, Z36, Z17, (by rw [d1]; rfl), (by rw [d3]; exact nd23), (nv24.mono Le.kk), (by rw [d2]; exact hF37), hH45.sub (.cons _ (.cons _ (.cons _ (.cons _ (List.Sublist.refl _)))))⟩
  · refine CW.seq ?_
    refine CW.region ?_
    refine RL.val rfl (run_eql rfl rfl) ?_
    refine RL.val rfl (run_assign (v := B _) rfl) ?_
    refine RL.nil ?_
    refine CW.condP rfl (fun h47 => ?_) (fun h47 => ?_)
    · refine CW.seq ?_
      refine CW.region ?_
      refine RL.val rfl (run_ldA (cs := [_]) Try.underlying43 rfl rfl rfl (rangeAt_cells (hH8.blk (i := 2) rfl))) ?_
      refine RL.val rfl (run_fieldAddr Try.underlying46 rfl (off := 1) rfl Try.sizeOf3 (by decide) rfl) ?_
      refine RL.val rfl (run_ld Try.underlying3 rfl rfl (hH8.cell (i := 1) rfl (v := I _) rfl)) ?_
      refine RL.callF rfl hH8 (c_clearanceref21_Undo (Kz (Kw W0) R) _ _ (by assumption) _ (hH8.kz (Le.refl _) (fun x hx => (List.mem_cons_of_mem _ (List.mem_cons_of_mem _ (List.mem_cons_of_mem _ (List.mem_append_right _ (List.mem_append_left _ hx))))))) hx) (run_call2 Try.call35 rfl rfl) ?_
      intro v50 w51 Z53 hH52 hp54
      have hH55 : Hp _ w51 (_ :: _ :: _ :: (Z53 ++ (Zf ++ (R ++ A)))) := hH52.zin (L := [_, _, _]) (L' := (Zf ++ (R ++ A)))
      have hH57 : Hp _ w51 (_ :: _ :: _ :: (Zf ++ (Z53 ++ (R ++ A)))) := Hp.swz (A := [_, _, _]) hH55
      obtain ⟨n58, rfl, nd59, nv60⟩ := hp54
      refine RL.val rfl (run_move (by conv => lhs; whnf)) ?_
      refine RL.val rfl (run_extract rfl (v := .agg _) rfl) ?_
      refine RL.val rfl (run_extract rfl (v := B _) rfl) ?_
      refine RL.new rfl hH57 (f := fun b => (.pointer (some ⟨b, 0, none⟩))) (run_alloc Try.zeroValue43) ?_
      intro b64 w62 hH63
      refine RL.set hH63 (i := 0) rfl (run_stW rfl rfl rfl (nv60.mono Le.kk).one (hH63.blk (i := 0) rfl) rfl) ?_
      intro w65 hH66
      simp only [List.set_cons_zero, List.set_cons_succ] at hH66
      refine RL.val rfl (run_assign (v := B _) rfl) ?_
      refine RL.nil ?_
      refine CW.seq ?_
      refine CW.regionS (by kernel_rfl) hH66 (.cons_cons _ (.cons _ (.cons_cons _ (.cons_cons _ (List.sublist_append_of_sublist_right (List.Sublist.refl _)))))) ?_
      intro w67 hH68
      refine AN.take 0 rfl rfl (by kernel_rfl) (by kernel_rfl) (by kernel_rfl) (hH68.sub (.cons_cons _ (.cons _ (.cons_cons _ (.cons_cons _ (List.sublist_append_of_sublist_right (List.Sublist.refl _))))))) (fun w hS => run_ldA (cs := [_]) Try.underlying43 rfl rfl rfl (rangeAt_cells (hS.blk (i := 0) rfl))) ?_
      refine AN.take 1 rfl rfl (by kernel_rfl) (by kernel_rfl) (by kernel_rfl) (hH68.sub (.cons_cons _ (.cons _ (.cons_cons _ (.cons_cons _ (List.sublist_append_of_sublist_right (List.Sublist.refl _))))))) (fun w hS => run_move (v := .pointer (some ⟨_, _, none⟩)) rfl) ?_
      refine AN.take 2 rfl rfl (by kernel_rfl) (by kernel_rfl) (by kernel_rfl) (hH68.sub (.cons_cons _ (.cons _ (.cons_cons _ (.cons_cons _ (List.sublist_append_of_sublist_right (List.Sublist.refl _))))))) (fun w hS => run_fieldAddr Try.underlying46 rfl (off := 1) rfl Try.sizeOf3 (by decide) rfl) ?_
      refine AN.take 3 rfl rfl (by kernel_rfl) (by kernel_rfl) (by kernel_rfl) (hH68.sub (.cons_cons _ (.cons _ (.cons_cons _ (.cons_cons _ (List.sublist_append_of_sublist_right (List.Sublist.refl _))))))) (fun w hS => run_ld Try.underlying3 rfl rfl (hS.cell (i := 1) rfl (v := I _) rfl)) ?_
      refine AN.take 5 rfl rfl (by kernel_rfl) (by kernel_rfl) (by kernel_rfl) (hH68.sub (.cons_cons _ (.cons _ (.cons_cons _ (.cons_cons _ (List.sublist_append_of_sublist_right (List.Sublist.refl _))))))) (fun w hS => run_move (v := B _) rfl) ?_
      refine AN.one 4 (by kernel_rfl) ?_
      refine AO.callT rfl gnone rfl (m_Undo _ (by omega) hF (Hp.zfront (A := [_, _, _, _]) hH68)) (run_call2 Try.call25 rfl rfl) (fun u w' ⟨_, Z', _, h⟩ => Hp.sub (L := _ :: _ :: _ :: _ :: (Z' ++ (Z53 ++ (R ++ A)))) (Hp.zback (A := [_, _, _, _]) h) (.cons_cons _ (.cons _ (.cons_cons _ (.cons_cons _ (List.sublist_append_of_sublist_right (List.Sublist.refl _))))))) ?_
      rintro _ w71 ⟨rfl, Z72, hF73, h74⟩
      have hH75 : Hp _ w71 (_ :: _ :: _ :: _ :: (Z72 ++ (Z53 ++ (R ++ A)))) := (Hp.zback (A := [_, _, _, _]) h74)
      refine AN.take 6 rfl rfl (by kernel_rfl) (by kernel_rfl) (by kernel_rfl) (hH75.sub (.cons_cons _ (.cons _ (.cons_cons _ (.cons_cons _ (List.sublist_append_of_sublist_right (List.Sublist.refl _))))))) (fun w hS => run_eqlB Try.underlying4 rfl rfl) ?_
      refine AN.one 7 (by kernel_rfl) ?_
      refine AO.set rfl gnone hH75 (j := 1) rfl (.cons_cons _ (.cons _ (.cons_cons _ (.cons_cons _ (List.sublist_append_of_sublist_right (List.Sublist.refl _)))))) (run_stW rfl rfl rfl (nv60.mono Le.kk).one (hH75.blk (i := 1) rfl) rfl) ?_
      intro w80 hH81
      simp only [List.set_cons_zero, List.set_cons_succ] at hH81
      refine AN.take 8 rfl rfl (by kernel_rfl) (by kernel_rfl) (by kernel_rfl) (hH81.sub (.cons_cons _ (.cons _ (.cons_cons _ (.cons_cons _ (List.sublist_append_of_sublist_right (List.Sublist.refl _))))))) (fun w hS => run_assign (v := B _) rfl) ?_
      refine AN.done (by kernel_rfl) ?_
      refine CW.ret ?_
      obtain ⟨d1, d2, d3⟩ : doB cs x.cs o = _ ∧ stepC cs o = _ ∧ stepC x.cs o = _ := do_2 ‹_› ‹_›
      exact outCT Try.results15 rfl rfl hH81 (i := 1) rfl Try.underlying43 rfl rfl ⟨n58, Z72, Z53, (by rw [d1]; rfl), (by rw [d3]; exact nd59), (nv60.mono Le.kk), (by rw [d2]; exact hF73), hH81.sub (.cons _ (.cons _ (.cons _ (.cons _ (List.Sublist.refl _)))))⟩
    · refine CW.skip ?_
      refine CW.seq ?_
      refine CW.region ?_
      refine RL.val rfl (run_ldA (cs := [_]) Try.underlying43 rfl rfl rfl (rangeAt_cells (hH8.blk (i := 2) rfl))) ?_
      refine RL.callF rfl hH8 (c_clearanceref21_Add (Kz (Kw W0) R) _ (by assumption) (by assumption) _ (hH8.kz (Le.refl _) (fun x hx => (List.mem_cons_of_mem _ (List.mem_cons_of_mem _ (List.mem_cons_of_mem _ (List.mem_append_right _ (List.mem_append_left _ hx))))))) hx) (run_call1 Try.call36 rfl) ?_
      intro v84 w85 Z87 hH86 hp88
      have hH89 : Hp _ w85 (_ :: _ :: _ :: (Z87 ++ (Zf ++ (R ++ A)))) := hH86.zin (L := [_, _, _]) (L' := (Zf ++ (R ++ A)))
      have hH91 : Hp _ w85 (_ :: _ :: _ :: (Zf ++ (Z87 ++ (R ++ A)))) := Hp.swz (A := [_, _, _]) hH89
      obtain ⟨n92, rfl, nd93, nv94⟩ := hp88
      refine RL.val rfl (run_move (by conv => lhs; whnf)) ?_
      refine RL.val rfl (run_extract rfl (v := .agg _) rfl) ?_
      refine RL.val rfl (run_extract rfl (v := I _) rfl) ?_
      refine RL.new rfl hH91 (f := fun b => (.pointer (some ⟨b, 0, none⟩))) (run_alloc Try.zeroValue43) ?_
      intro b97 w95 hH96
      refine RL.set hH96 (i := 0) rfl (run_stW rfl rfl rfl (nv94.mono Le.kk).one (hH96.blk (i := 0) rfl) rfl) ?_
      intro w98 hH99
      simp only [List.set_cons_zero, List.set_cons_succ] at hH99
      refine RL.val rfl (run_assign (v := I _) rfl) ?_
      refine RL.nil ?_
      refine CW.seq ?_
      refine CW.regionS (by kernel_rfl) hH99 (.cons_cons _ (.cons _ (.cons_cons _ (.cons_cons _ (List.sublist_append_of_sublist_right (List.Sublist.refl _)))))) ?_
      intro w100 hH101
      refine AN.take 0 rfl rfl (by kernel_rfl) (by kernel_rfl) (by kernel_rfl) (hH101.sub (.cons_cons _ (.cons _ (.cons_cons _ (.cons_cons _ (List.sublist_append_of_sublist_right (List.Sublist.refl _))))))) (fun w hS => run_ldA (cs := [_]) Try.underlying43 rfl rfl rfl (rangeAt_cells (hS.blk (i := 0) rfl))) ?_
      refine AN.take 1 rfl rfl (by kernel_rfl) (by kernel_rfl) (by kernel_rfl) (hH101.sub (.cons_cons _ (.cons _ (.cons_cons _ (.cons_cons _ (List.sublist_append_of_sublist_right (List.Sublist.refl _))))))) (fun w hS => run_move (v := .pointer (some ⟨_, _, none⟩)) rfl) ?_
      refine AN.take 3 rfl rfl (by kernel_rfl) (by kernel_rfl) (by kernel_rfl) (hH101.sub (.cons_cons _ (.cons _ (.cons_cons _ (.cons_cons _ (List.sublist_append_of_sublist_right (List.Sublist.refl _))))))) (fun w hS => run_move (v := I _) rfl) ?_
      refine AN.one 2 (by kernel_rfl) ?_
      refine AO.callT rfl gnone rfl (m_Add (by omega) hF (Hp.zfront (A := [_, _, _, _]) hH101)) (run_call1 Try.call9 rfl) (fun u w' ⟨_, Z', _, h⟩ => Hp.sub (L := _ :: _ :: _ :: _ :: (Z' ++ (Z87 ++ (R ++ A)))) (Hp.zback (A := [_, _, _, _]) h) (.cons_cons _ (.cons _ (.cons_cons _ (.cons_cons _ (List.sublist_append_of_sublist_right (List.Sublist.refl _))))))) ?_
      rintro _ w104 ⟨rfl, Z105, hF106, h107⟩
      have hH108 : Hp _ w104 (_ :: _ :: _ :: _ :: (Z105 ++ (Z87 ++ (R ++ A)))) := (Hp.zback (A := [_, _, _, _]) h107)
      refine AN.take 4 rfl rfl (by kernel_rfl) (by kernel_rfl) (by kernel_rfl) (hH108.sub (.cons_cons _ (.cons _ (.cons_cons _ (.cons_cons _ (List.sublist_append_of_sublist_right (List.Sublist.refl _))))))) (fun w hS => run_eql rfl rfl) ?_
      refine AN.one 5 (by kernel_rfl) ?_
      refine AO.set rfl gnone hH108 (j := 1) rfl (.cons_cons _ (.cons _ (.cons_cons _ (.cons_cons _ (List.sublist_append_of_sublist_right (List.Sublist.refl _)))))) (run_stW rfl rfl rfl (nv94.mono Le.kk).one (hH108.blk (i := 1) rfl) rfl) ?_
      intro w112 hH113
      simp only [List.set_cons_zero, List.set_cons_succ] at hH113
      refine AN.take 6 rfl rfl (by kernel_rfl) (by kernel_rfl) (by kernel_rfl) (hH113.sub (.cons_cons _ (.cons _ (.cons_cons _ (.cons_cons _ (List.sublist_append_of_sublist_right (List.Sublist.refl _))))))) (fun w hS => run_assign (v := B _) rfl) ?_
      refine AN.done (by kernel_rfl) ?_
      refine CW.ret ?_
      obtain ⟨d1, d2, d3⟩ : doB cs x.cs o = _ ∧ stepC cs o = _ ∧ stepC x.cs o = _ := do_3 ‹_› ‹_›
      exact outCT Try.results15 rfl rfl hH113 (i := 1) rfl Try.underlying43 rfl rfl ⟨n92, Z105, Z87, (by rw [d1]; rfl), (by rw [d3]; exact nd93), (nv94.mono Le.kk), (by rw [d2]; exact hF106), hH113.sub (.cons _ (.cons _ (.cons _ (.cons _ (List.Sublist.refl _)))))⟩
theorem c_clearancelaw21_alive  (w : World) : Calls Try.prog 7 #[] w (Pure (B true) w) := by
  refine enter Try.func7 rfl Try.ntmps7 rfl ?_
  have hH := Hp.start w
  refine CW.seq ?_
  refine CW.region ?_
  refine RL.val rfl (run_assign (v := B false) rfl) ?_
  refine RL.nil ?_
  refine CW.seq ?_
  refine CW.region ?_
  refine RL.callT rfl (c_forest_New _) (run_call0 Try.call8) ?_
  rintro _ w5 ⟨F3, Zf4, rfl, hz6, hF7⟩
  have hH8 : Hp _ w5 (Zf4) := Hp.unZ (A := []) (Hp.zin (L := []) (L' := []) ((Hp.nilT (L := []) hH).callZ hz6))
  refine RL.val rfl (run_assign (v := .pointer (some ⟨_, _, none⟩)) rfl) ?_
  refine RL.nil ?_
  refine CW.seq ?_
  refine CW.region ?_
  refine RL.val rfl (run_move (v := .pointer (some ⟨_, _, none⟩)) rfl) ?_
  refine RL.callT rfl (m_Add (by omega) hF7 (Hp.zfront (A := []) (Hp.nilZ (A := []) hH8))) (run_call1 Try.call9 rfl) ?_
  rintro _ w11 ⟨rfl, Z12, hF13, h14⟩
  have hH15 : Hp _ w11 (Z12) := (Hp.unZ (A := []) (Hp.zback (A := []) h14))
  refine RL.val rfl (run_move (v := .pointer (some ⟨_, _, none⟩)) rfl) ?_
  refine RL.callT rfl (m_Add (by omega) hF13 (Hp.zfront (A := []) (Hp.nilZ (A := []) hH15))) (run_call1 Try.call9 rfl) ?_
  rintro _ w18 ⟨rfl, Z19, hF20, h21⟩
  have hH22 : Hp _ w18 (Z19) := (Hp.unZ (A := []) (Hp.zback (A := []) h21))
  refine RL.val rfl (run_move (v := .pointer (some ⟨_, _, none⟩)) rfl) ?_
  refine RL.callT rfl (m_Add (by omega) hF20 (Hp.zfront (A := []) (Hp.nilZ (A := []) hH22))) (run_call1 Try.call9 rfl) ?_
  rintro _ w25 ⟨rfl, Z26, hF27, h28⟩
  have hH29 : Hp _ w25 (Z26) := (Hp.unZ (A := []) (Hp.zback (A := []) h28))
  refine RL.val rfl (run_assign (v := I _) rfl) ?_
  refine RL.val rfl (run_assign (v := I _) rfl) ?_
  refine RL.val rfl (run_assign (v := I _) rfl) ?_
  refine RL.nil ?_
  refine CW.seq ?_
  refine CW.region ?_
  refine RL.val rfl (run_move (v := I _) rfl) ?_
  refine RL.val rfl (run_eql rfl rfl) ?_
  refine RL.val rfl (run_move (v := B _) rfl) ?_
  refine RL.gT rfl (bT (by decide +kernel)) ?_
  refine RL.val rfl (run_move (v := I _) rfl) ?_
  refine RL.gT rfl (bT (by decide +kernel)) ?_
  refine RL.val rfl (run_eql rfl rfl) ?_
  refine RL.val rfl (run_pickT (bT (by decide +kernel)) (v := B _) rfl) ?_
  refine RL.val rfl (run_move (v := B _) rfl) ?_
  refine RL.gT rfl (bT (by decide +kernel)) ?_
  refine RL.val rfl (run_move (v := I _) rfl) ?_
  refine RL.gT rfl (bT (by decide +kernel)) ?_
  refine RL.val rfl (run_eql rfl rfl) ?_
  refine RL.val rfl (run_pickT (bT (by decide +kernel)) (v := B _) rfl) ?_
  refine RL.val rfl (run_move (v := B _) rfl) ?_
  refine RL.gT rfl (bT (by decide +kernel)) ?_
  refine RL.val rfl (run_move (v := .pointer (some ⟨_, _, none⟩)) rfl) ?_
  refine RL.gT rfl (bT (by decide +kernel)) ?_
  refine RL.callT rfl (m_Union _ _ (by omega) hF27 (Hp.zfront (A := []) (Hp.nilZ (A := []) hH29))) (run_call3 Try.call10 rfl (show _ = I 0 from rfl) (show _ = I 2 from rfl)) ?_
  rintro _ w35 ⟨rfl, Z36, hF37, h38⟩
  have hH39 : Hp _ w35 (Z36) := (Hp.unZ (A := []) (Hp.zback (A := []) h38))
  refine RL.val rfl (run_pickT (bT (by decide +kernel)) (v := B _) rfl) ?_
  refine RL.val rfl (run_move (v := B _) rfl) ?_
  refine RL.gT rfl (bR (c := true) (by decide +kernel)) ?_
  refine RL.val rfl (run_move (v := .pointer (some ⟨_, _, none⟩)) rfl) ?_
  refine RL.gT rfl (bR (c := true) (by decide +kernel)) ?_
  refine RL.callR rfl hH39 (m_Class _ (by omega) hF37 hH39 (fun x hx => hx)) (run_call2 Try.call23 rfl (show _ = I 2 from rfl)) ?_
  intro v43 w41 hH42
  refine RL.gT rfl (bR (c := true) (by decide +kernel)) ?_
  refine RL.new rfl hH42 (f := fun b => (.slice (some ⟨b, 0, none⟩) 2 2)) (run_mkL Try.underlying37 rfl rfl (sz := 1) (vs := [I 0, I 2]) rfl rfl (by decide) (by decide) rfl rfl) ?_
  intro b46 w44 hH45
  (try simp only [List.flatMap_cons, List.flatMap_nil, clI, clB, clS, clP, clL, clA, List.append_nil, List.cons_append, List.nil_append] at hH45)
  refine RL.gT rfl (bR (c := true) (by decide +kernel)) ?_
  refine RL.callP rfl hH45 (c_clearanceref01_Ints _ _ (classI [0, 1, 0] 2) [0, 2] _ (hH45.sl (i := 1) rfl) (hH45.slBlk (i := 0) (n := 2) (sz := 1) rfl rfl (by decide))) (run_call2 Try.call22 rfl rfl) ?_
  intro w47 hH48
  refine RL.val rfl (run_pickT (bR (c := true) (by decide +kernel)) (v := B _) rfl) ?_
  refine RL.val rfl (run_move (v := B _) rfl) ?_
  refine RL.gT rfl (bT (by decide +kernel)) ?_
  refine RL.val rfl (run_move (v := .pointer (some ⟨_, _, none⟩)) rfl) ?_
  refine RL.gT rfl (bT (by decide +kernel)) ?_
  refine RL.callP rfl hH48 (m_Count hF37 hH48 (fun x hx => (List.mem_cons_of_mem _ (List.mem_cons_of_mem _ hx)))) (run_call1 Try.call18 rfl) ?_
  intro w51 hH52
  refine RL.gT rfl (bT (by decide +kernel)) ?_
  refine RL.val rfl (run_eql rfl rfl) ?_
  refine RL.val rfl (run_pickT (bT (by decide +kernel)) (v := B _) rfl) ?_
  refine RL.val rfl (run_move (v := B _) rfl) ?_
  refine RL.gT rfl (bT (by decide +kernel)) ?_
  refine RL.val rfl (run_move (v := .pointer (some ⟨_, _, none⟩)) rfl) ?_
  refine RL.gT rfl (bT (by decide +kernel)) ?_
  refine RL.callT rfl (m_Union _ _ (by omega) hF37 (Hp.zfront (A := [_, _]) (Hp.nilZ (A := [_, _]) hH52))) (run_call3 Try.call10 rfl (show _ = I 2 from rfl) (show _ = I 0 from rfl)) ?_
  rintro _ w56 ⟨rfl, Z57, hF58, h59⟩
  have hH60 : Hp _ w56 (_ :: _ :: Z57) := (Hp.unZ (A := [_, _]) (Hp.zback (A := [_, _]) h59))
  refine RL.gT rfl (bT (by decide +kernel)) ?_
  refine RL.val rfl (run_not (bR (c := false) (by decide +kernel))) ?_
  refine RL.val rfl (run_pickT (bT (by decide +kernel)) (v := B _) rfl) ?_
  refine RL.val rfl (run_assign (v := B _) rfl) ?_
  refine RL.nil ?_
  refine CW.ret ?_
  refine outP1 Try.results7 (congrArg B ?_) hH60.below
  rfl
theorem c_clearancelaw21_ForestBack (v1 : Value) (l : List OpR) (v2 : Value) (m : List OpR) (w : World) (hs : Sl w v1 3 l.length (l.flatMap opL)) (hs2 : Sl w v2 3 m.length (m.flatMap opL)) : Calls Try.prog 5 #[v1, v2] w (Pure (B true) w) := by
  have hm := hs.small
  have hm2 := hs2.small
  unfold maxLen at hm hm2
  refine enter Try.func5 rfl Try.ntmps5 rfl ?_
  have hH := Hp.start w
  refine CW.seq ?_
  refine CW.region ?_
  refine RL.val rfl (run_assign (v := B false) rfl) ?_
  refine RL.nil ?_
  refine CW.seq ?_
  refine CW.seq ?_
  refine CW.region ?_
  refine RL.val rfl (run_move (by conv => lhs; whnf)) ?_
  refine RL.val rfl (run_lenSl (hs.hp hH) rfl Try.underlying40 rfl) ?_
  refine RL.val rfl (run_gtr rfl rfl) ?_
  refine RL.val rfl (run_move (v := B _) rfl) ?_
  refine RL.splitP (dj := 18) rfl (fun h2 => ?_) (fun h2 => ?_)
  · refine RL.gF rfl rfl (bT h2) rfl ?_
    refine RL.gF rfl rfl (bT h2) rfl ?_
    refine RL.gF rfl rfl (bT h2) rfl ?_
    refine RL.val rfl (run_pickT (bT h2) (v := B true) rfl) ?_
    refine RL.nil ?_
    refine CW.condT rfl ?_
    refine CW.seq ?_
    refine CW.region ?_
    refine RL.callP rfl hH (c_clearancelaw21_alive   _) (run_call0 Try.call7) ?_
    intro w3 hH4
    refine RL.val rfl (run_assign (v := B _) rfl) ?_
    refine RL.nil ?_
    refine CW.ret ?_
    refine outP1 Try.results5 (congrArg B ?_) hH4.below
    rfl
  · refine RL.gT rfl (bF h2) ?_
    refine RL.val rfl (run_move (by conv => lhs; whnf)) ?_
    refine RL.gT rfl (bF h2) ?_
    refine RL.val rfl (run_lenSl (hs2.hp hH) rfl Try.underlying40 rfl) ?_
    refine RL.gT rfl (bF h2) ?_
    refine RL.val rfl (run_gtr rfl rfl) ?_
    refine RL.val rfl (run_pickF (bF h2) (v := B _) rfl) ?_
    refine RL.nil ?_
    refine CW.condP rfl (fun h7 => ?_) (fun h7 => ?_)
    · refine CW.seq ?_
      refine CW.region ?_
      refine RL.callP rfl hH (c_clearancelaw21_alive   _) (run_call0 Try.call7) ?_
      intro w8 hH9
      refine RL.val rfl (run_assign (v := B _) rfl) ?_
      refine RL.nil ?_
      refine CW.ret ?_
      refine outP1 Try.results5 (congrArg B ?_) hH9.below
      rfl
    · refine CW.skip ?_
      refine CW.seq ?_
      refine CW.region ?_
      refine RL.callT rfl (c_forest_New _) (run_call0 Try.call8) ?_
      rintro _ w15 ⟨F13, Zf14, rfl, hz16, hF17⟩
      have hH18 : Hp _ w15 (Zf14) := Hp.unZ (A := []) (Hp.zin (L := []) (L' := []) ((Hp.nilT (L := []) hH).callZ hz16))
      refine RL.val rfl (run_assign (v := .pointer (some ⟨_, _, none⟩)) rfl) ?_
      refine RL.nil ?_
      refine CW.seq ?_
      refine CW.seq ?_
      refine CW.region ?_
      refine RL.val rfl (run_move (by conv => lhs; whnf)) ?_
      refine RL.val rfl (run_lenSl (hs.hp hH18) rfl Try.underlying40 rfl) ?_
      refine RL.val rfl (run_move (v := I 0) rfl) ?_
      refine RL.nil ?_
      refine CW.block ?_
      refine CW.loop (G := (Int) × (List (List Nat)) × (List Ent)) (fun (⟨k, cs, Z1⟩ : (Int) × (List (List Nat)) × (List Ent)) s' w' => (Fr [7, 27, 28, 29, 30, 31, 32, 33, 34, 35] _ s') ∧ (Hp w w' (Z1)) ∧ (s' 27 = I k) ∧ (0 ≤ k) ∧ (k ≤ l.length) ∧ (StF FX F13 k.toNat cs Z1)) (fun (⟨k, cs, Z1⟩ : (Int) × (List (List Nat)) × (List Ent)) => (l.length - k).toNat) ((0, [[]], Zf14)) ⟨Fr.refl _ _, hH18, rfl, (by omega), (by omega), ⟨_, [], (List.append_nil _).symm, hF17⟩⟩ ?_
      rintro ⟨k, cs, Z1⟩ sg19 w19 ⟨fr19, hH19, e27_19, h0, hk, hS⟩
      have e1_19 := (fr19 1 rfl).trans (by conv => lhs; whnf)
      have e4_19 : sg19 4 = B _ := (fr19 4 rfl).trans rfl
      have e5_19 : sg19 5 = .pointer (some ⟨_, _, none⟩) := (fr19 5 rfl).trans rfl
      have e25_19 := (fr19 25 rfl).trans (by conv => lhs; whnf)
      have e26_19 : sg19 26 = I _ := (fr19 26 rfl).trans rfl
      obtain ⟨Zf, Zv, rfl, hF⟩ := hS
      refine CW.seq ?_
      refine CW.region ?_
      refine RL.val rfl (run_lss e27_19 e26_19) ?_
      refine RL.nil ?_
      refine CW.seq ?_
      refine CW.condP rfl (fun h21 => ?_) (fun h21 => ?_)
      · refine CW.skip ?_
        refine CW.seq ?_
        refine CW.block ?_
        refine CW.seq ?_
        refine CW.region ?_
        refine RL.val rfl (run_indexAddrS (hs.hp hH19) Try.underlying40 Try.sizeOf46 e25_19 e27_19 (by omega)) ?_
        refine RL.val rfl (run_ldE (dv := op0) opL_len (hs.hp hH19) Try.underlying46 rfl rfl rfl (by omega)) ?_
        refine RL.new rfl hH19 (f := fun b => (.pointer (some ⟨b, 0, none⟩))) (run_alloc Try.zeroValue46) ?_
        intro b24 w22 hH23
        refine RL.set hH23 (i := 0) rfl (run_stW rfl rfl rfl (opL_one _) (hH23.blk (i := 0) rfl) rfl) ?_
        intro w25 hH26
        simp only [List.set_cons_zero, List.set_cons_succ] at hH26
        refine RL.nil ?_
        refine CW.regionS (by kernel_rfl) hH26 (.cons_cons _ (List.sublist_append_of_sublist_right (List.Sublist.refl _))) ?_
        intro w27 hH28
        refine AN.take 0 rfl rfl (by kernel_rfl) (by kernel_rfl) (by kernel_rfl) (hH28.sub (.cons_cons _ (List.sublist_append_of_sublist_right (List.Sublist.refl _)))) (fun w hS => run_move e5_19) ?_
        refine AN.take 2 rfl rfl (by kernel_rfl) (by kernel_rfl) (by kernel_rfl) (hH28.sub (.cons_cons _ (List.sublist_append_of_sublist_right (List.Sublist.refl _)))) (fun w hS => run_ldA (cs := [I _, I _, I _]) Try.underlying46 rfl rfl rfl (rangeAt_cells (hS.blk (i := 0) rfl))) ?_
        refine AN.one 1 (by kernel_rfl) ?_
        refine AO.callF rfl gnone rfl hH28 (.cons_cons _ (List.sublist_append_of_sublist_right (List.Sublist.refl _))) (c_clearanceref21_New (Kz (Kw w) Zv)   _ (hH28.kz (Le.refl _) (fun x hx => (List.mem_cons_of_mem _ (List.mem_append_right _ hx))))) (run_call0 Try.call14) ?_
        intro v31 w32 Z34 hH33 hp35
        have hH36 : Hp _ w32 (_ :: (Z34 ++ (Zf ++ Zv))) := hH33.zin (L := [_]) (L' := (Zf ++ Zv))
        have hH38 : Hp _ w32 (_ :: (Zf ++ (Z34 ++ Zv))) := Hp.swz (A := [_]) hH36
        obtain ⟨n39, rfl, nd40, nv41⟩ := hp35
        refine AN.one 3 (by kernel_rfl) ?_
        refine AO.callT rfl gnone rfl (c_clearancelaw21_do _ _ _ _ _ (Z34 ++ Zv) _ _ _ (by omega) (by rw [← cs_len, nd40]; decide) (by rw [← now_cs ((nv41.mono Le.kk)).ne, nd40]; decide) _ hF (nv41.mono Le.kk) (Hp.zdo (A := [_]) hH38)) (run_call3 Try.call15 rfl rfl rfl) (fun u w' ⟨_, Z', z', _, _, _, _, h⟩ => Hp.sub (L := _ :: (Z' ++ (z' ++ (Z34 ++ Zv)))) (Hp.zdone (A := [_]) h) (.cons_cons _ (List.sublist_append_of_sublist_right (List.sublist_append_of_sublist_right (List.sublist_append_of_sublist_right (List.Sublist.refl _)))))) ?_
        rintro _ w47 ⟨y44, Z45, z46, rfl, yc48, yv49, hF50, h51⟩
        have hH52 : Hp _ w47 (_ :: (Z45 ++ (z46 ++ (Z34 ++ Zv)))) := (Hp.zdone (A := [_]) h51)
        refine AN.done (by kernel_rfl) ?_
        refine CW.region ?_
        refine RL.val rfl (run_add e27_19 rfl (by omega)) ?_
        refine RL.val rfl (run_move (v := I _) rfl) ?_
        refine RL.nil ?_
        refine ⟨(k + 1, stepC cs (l.getD k.toNat op0), (Z45 ++ (z46 ++ (Z34 ++ Zv)))), ?_, (((((((((fr19.u rfl).u rfl).u rfl).u rfl).u rfl).u rfl).u rfl).u rfl).u rfl).u rfl, (hH52.sub (.cons _ (List.Sublist.refl _))), (congrArg I (by rfl)), ?_, ?_, ?_⟩
        · ((try dsimp only); omega)
        · omega
        · omega
        · exact ⟨_, _, rfl, hF50.more (by omega)⟩
      · refine CW.exit (id := 0) rfl ?_
        refine CW.seq ?_
        refine CW.region ?_
        refine RL.val rfl (run_assign (v := .slice none 0 0) rfl) ?_
        have hH53 := hH19.nilRow 3 1
        refine RL.nil ?_
        refine CW.seq ?_
        refine CW.seq ?_
        refine CW.region ?_
        refine RL.val rfl (run_move e5_19) ?_
        refine RL.callP rfl hH53 (m_Len (by omega) hF hH53 (fun x hx => (List.mem_cons_of_mem _ (List.mem_append_left _ hx)))) (run_call1 Try.call16 rfl) ?_
        intro w54 hH55
        refine RL.val rfl (run_move (v := I 0) rfl) ?_
        refine RL.nil ?_
        refine CW.block ?_
        have fs0 := hF.small
        refine CW.loop (G := (Int) × (List Int) × (Value)) (fun (⟨q, o, v8⟩ : (Int) × (List Int) × (Value)) s' w' => (Fr [8, 9, 38, 39, 40, 41, 42, 43, 44, 45, 46, 47] _ s') ∧ (Hp w w' (.row v8 3 1 (o.length) (o.map I) :: _)) ∧ (s' 8 = v8) ∧ (s' 38 = I q) ∧ (0 ≤ q) ∧ (q ≤ (nowC cs).length) ∧ (o = fdTo (nowC cs) q.toNat) ∧ (o.length = q.toNat)) (fun (⟨q, o, v8⟩ : (Int) × (List Int) × (Value)) => ((nowC cs).length - q).toNat) ((0, [], (.slice none 0 0 : Value))) ⟨Fr.refl _ _, hH55, rfl, rfl, (by omega), (by omega), rfl, rfl⟩ ?_
        rintro ⟨q, o, v8⟩ sg56 w56 ⟨fr56, hH56, e8_56, e38_56, q0, qn, ho, hol⟩
        have e1_56 := (fr56 1 rfl).trans e1_19
        have e4_56 := (fr56 4 rfl).trans e4_19
        have e5_56 := (fr56 5 rfl).trans e5_19
        have e37_56 : sg56 37 = I _ := (fr56 37 rfl).trans rfl
        refine CW.seq ?_
        refine CW.region ?_
        refine RL.val rfl (run_lss e38_56 e37_56) ?_
        refine RL.nil ?_
        refine CW.seq ?_
        refine CW.condP rfl (fun h58 => ?_) (fun h58 => ?_)
        · refine CW.skip ?_
          refine CW.seq ?_
          refine CW.block ?_
          refine CW.seq ?_
          refine CW.region ?_
          refine RL.val rfl (run_move e38_56) ?_
          refine RL.val rfl (run_assign (v := I _) rfl) ?_
          refine RL.nil ?_
          refine CW.region ?_
          refine RL.val rfl (run_move e8_56) ?_
          refine RL.val rfl (run_move e5_56) ?_
          refine RL.val rfl (run_move (v := I _) rfl) ?_
          refine RL.callP rfl hH56 (m_Find _ (by omega) hF hH56 (fun x hx => (List.mem_cons_of_mem _ (List.mem_append_left _ hx)))) (run_call2 Try.call11 rfl rfl) ?_
          intro w59 hH60
          refine RL.new rfl hH60 (f := fun b => (.slice (some ⟨b, 0, none⟩) 1 1)) (run_mkL Try.underlying37 rfl rfl (sz := 1) (vs := [I _]) rfl rfl (by decide) (by decide) rfl rfl) ?_
          intro b63 w61 hH62
          (try simp only [List.flatMap_cons, List.flatMap_nil, clI, clB, clS, clP, clL, clA, List.append_nil, List.cons_append, List.nil_append] at hH62)
          refine RL.app rfl hH62 (i := 1) rfl (hH62.slBlk (i := 0) (n := 1) (sz := 1) rfl rfl (by decide)) rfl rfl Try.underlying37 rfl rfl (size := 1) (bytes := 8) rfl rfl rfl (by decide) (by simp [Value.oneCell']) (by omega) (by simp only [maxLen]; omega) ?_
          intro v64 w65 hH66
          simp only [List.set_cons_zero, List.set_cons_succ] at hH66
          refine RL.val rfl (run_assign (by conv => lhs; whnf)) ?_
          refine RL.nil ?_
          refine CW.region ?_
          refine RL.val rfl (run_add e38_56 rfl (by omega)) ?_
          refine RL.val rfl (run_move (v := I _) rfl) ?_
          refine RL.nil ?_
          refine ⟨(q + 1, o ++ [findR (nowC cs) q], v64), ?_, (((((((((((fr56.u rfl).u rfl).u rfl).u rfl).u rfl).u rfl).u rfl).u rfl).u rfl).u rfl).u rfl).u rfl, (Hp.conv (hH66.sub (.cons _ (List.Sublist.refl _))) (by simp only [List.map_append, List.map_cons, List.map_nil, List.length_append, List.length_singleton]; done)), rfl, (congrArg I (by rfl)), ?_, ?_, ?_, ?_⟩
          · ((try dsimp only); omega)
          · omega
          · omega
          · rw [fd_next q0, ho]
          · (simp only [List.length_append, List.length_singleton]; omega)
        · refine CW.exit (id := 2) rfl ?_
          refine CW.seq ?_
          refine CW.region ?_
          refine RL.val rfl (run_move e5_56) ?_
          refine RL.callP rfl hH56 (m_Mark hF hH56 (fun x hx => (List.mem_cons_of_mem _ (List.mem_append_left _ hx)))) (run_call1 Try.call20 rfl) ?_
          intro w67 hH68
          refine RL.val rfl (run_move e5_56) ?_
          refine RL.callP rfl hH68 (m_Count hF hH68 (fun x hx => (List.mem_cons_of_mem _ (List.mem_append_left _ hx)))) (run_call1 Try.call18 rfl) ?_
          intro w69 hH70
          refine RL.val rfl (run_assign (v := I _) rfl) ?_
          refine RL.val rfl (run_assign (v := I _) rfl) ?_
          refine RL.nil ?_
          refine CW.seq ?_
          refine CW.seq ?_
          refine CW.region ?_
          refine RL.val rfl (run_move e1_56) ?_
          refine RL.val rfl (run_lenSl (hs2.hp hH70) rfl Try.underlying40 rfl) ?_
          refine RL.val rfl (run_move (v := I 0) rfl) ?_
          refine RL.nil ?_
          refine CW.block ?_
          have fs := hF.small
          refine CW.loop (G := (Int) × (List (List Nat)) × (List Ent)) (fun (⟨p, ds, Z2⟩ : (Int) × (List (List Nat)) × (List Ent)) s' w' => (Fr [13, 54, 55, 56, 57, 58, 59, 60, 61, 62, 63, 64, 65, 66, 67, 68, 69, 70, 71] _ s') ∧ (Hp w w' (_ :: Z2)) ∧ (s' 54 = I p) ∧ (0 ≤ p) ∧ (p ≤ m.length) ∧ (StF FX F13 (l.length + p.toNat) ds Z2) ∧ (∃ pre, ds = pre ++ cs)) (fun (⟨p, ds, Z2⟩ : (Int) × (List (List Nat)) × (List Ent)) => (m.length - p).toNat) ((0, cs, (Zf ++ Zv))) ⟨Fr.refl _ _, hH70, rfl, (by omega), (by omega), ⟨_, _, rfl, hF.more (by omega)⟩, ⟨[], rfl⟩⟩ ?_
          rintro ⟨p, ds, Z2⟩ sg71 w71 ⟨fr71, hH71, e54_71, p0, hp, hS, hpre⟩
          have e4_71 := (fr71 4 rfl).trans e4_56
          have e5_71 := (fr71 5 rfl).trans e5_56
          have e8_71 := (fr71 8 rfl).trans e8_56
          have e10_71 : sg71 10 = I _ := (fr71 10 rfl).trans rfl
          have e11_71 : sg71 11 = I _ := (fr71 11 rfl).trans rfl
          have e52_71 := (fr71 52 rfl).trans (by conv => lhs; whnf)
          have e53_71 : sg71 53 = I _ := (fr71 53 rfl).trans rfl
          obtain ⟨Zf, Zv, rfl, hF2⟩ := hS
          obtain ⟨pre, hpre⟩ := hpre
          refine CW.seq ?_
          refine CW.region ?_
          refine RL.val rfl (run_lss e54_71 e53_71) ?_
          refine RL.nil ?_
          refine CW.seq ?_
          refine CW.condP rfl (fun h73 => ?_) (fun h73 => ?_)
          · refine CW.skip ?_
            refine CW.seq ?_
            refine CW.block ?_
            refine CW.seq ?_
            refine CW.region ?_
            refine RL.val rfl (run_indexAddrS (hs2.hp hH71) Try.underlying40 Try.sizeOf46 e52_71 e54_71 (by omega)) ?_
            refine RL.val rfl (run_ldE (dv := op0) opL_len (hs2.hp hH71) Try.underlying46 rfl rfl rfl (by omega)) ?_
            refine RL.new rfl hH71 (f := fun b => (.pointer (some ⟨b, 0, none⟩))) (run_alloc Try.zeroValue46) ?_
            intro b76 w74 hH75
            refine RL.set hH75 (i := 0) rfl (run_stW rfl rfl rfl (opL_one _) (hH75.blk (i := 0) rfl) rfl) ?_
            intro w77 hH78
            simp only [List.set_cons_zero, List.set_cons_succ] at hH78
            refine RL.nil ?_
            refine CW.seq ?_
            refine CW.region ?_
            refine RL.val rfl (run_fieldAddr Try.underlying46 rfl (off := 0) rfl Try.sizeOf3 (by decide) rfl) ?_
            refine RL.val rfl (run_ld Try.underlying3 rfl rfl (hH78.cell (i := 0) rfl (v := I _) rfl)) ?_
            refine RL.val rfl (run_neq rfl rfl) ?_
            refine RL.val rfl (run_move (v := B _) rfl) ?_
            refine RL.splitP (dj := 61) rfl (fun h80 => ?_) (fun h80 => ?_)
            · refine RL.gF rfl rfl (bT h80) rfl ?_
              refine RL.gF rfl rfl (bT h80) rfl ?_
              refine RL.gF rfl rfl (bT h80) rfl ?_
              refine RL.gF rfl rfl (bT h80) rfl ?_
              refine RL.val rfl (run_pickT (bT h80) (v := B true) rfl) ?_
              refine RL.nil ?_
              refine CW.condT rfl ?_
              refine CW.regionS (by kernel_rfl) hH78 (.cons_cons _ (.cons_cons _ (List.sublist_append_of_sublist_right (List.Sublist.refl _)))) ?_
              intro w81 hH82
              refine AN.take 0 rfl rfl (by kernel_rfl) (by kernel_rfl) (by kernel_rfl) (hH82.sub (.cons_cons _ (.cons_cons _ (List.sublist_append_of_sublist_right (List.Sublist.refl _))))) (fun w hS => run_move e5_71) ?_
              refine AN.take 2 rfl rfl (by kernel_rfl) (by kernel_rfl) (by kernel_rfl) (hH82.sub (.cons_cons _ (.cons_cons _ (List.sublist_append_of_sublist_right (List.Sublist.refl _))))) (fun w hS => run_ldA (cs := [I _, I _, I _]) Try.underlying46 rfl rfl rfl (rangeAt_cells (hS.blk (i := 0) rfl))) ?_
              refine AN.one 1 (by kernel_rfl) ?_
              refine AO.callF rfl gnone rfl hH82 (.cons_cons _ (.cons_cons _ (List.sublist_append_of_sublist_right (List.Sublist.refl _)))) (c_clearanceref21_New (Kz (Kw w) Zv)   _ (hH82.kz (Le.refl _) (fun x hx => (List.mem_cons_of_mem _ (List.mem_cons_of_mem _ (List.mem_append_right _ hx)))))) (run_call0 Try.call14) ?_
              intro v85 w86 Z88 hH87 hp89
              have hH90 : Hp _ w86 (_ :: _ :: (Z88 ++ (Zf ++ Zv))) := hH87.zin (L := [_, _]) (L' := (Zf ++ Zv))
              have hH92 : Hp _ w86 (_ :: _ :: (Zf ++ (Z88 ++ Zv))) := Hp.swz (A := [_, _]) hH90
              obtain ⟨n93, rfl, nd94, nv95⟩ := hp89
              refine AN.one 3 (by kernel_rfl) ?_
              refine AO.callT rfl gnone rfl (c_clearancelaw21_do _ _ _ _ _ (Z88 ++ Zv) _ _ _ (by omega) (by rw [← cs_len, nd94]; decide) (by rw [← now_cs ((nv95.mono Le.kk)).ne, nd94]; decide) _ hF2 (nv95.mono Le.kk) (Hp.zdo (A := [_, _]) hH92)) (run_call3 Try.call15 rfl rfl rfl) (fun u w' ⟨_, Z', z', _, _, _, _, h⟩ => Hp.sub (L := _ :: _ :: (Z' ++ (z' ++ (Z88 ++ Zv)))) (Hp.zdone (A := [_, _]) h) (.cons_cons _ (.cons_cons _ (List.sublist_append_of_sublist_right (List.sublist_append_of_sublist_right (List.sublist_append_of_sublist_right (List.Sublist.refl _))))))) ?_
              rintro _ w101 ⟨y98, Z99, z100, rfl, yc102, yv103, hF104, h105⟩
              have hH106 : Hp _ w101 (_ :: _ :: (Z99 ++ (z100 ++ (Z88 ++ Zv)))) := (Hp.zdone (A := [_, _]) h105)
              refine AN.done (by kernel_rfl) ?_
              refine CW.region ?_
              refine RL.val rfl (run_add e54_71 rfl (by omega)) ?_
              refine RL.val rfl (run_move (v := I _) rfl) ?_
              refine RL.nil ?_
              refine ⟨(p + 1, stepC ds (m.getD p.toNat op0), (Z99 ++ (z100 ++ (Z88 ++ Zv)))), ?_, ((((((((((((((((((fr71.u rfl).u rfl).u rfl).u rfl).u rfl).u rfl).u rfl).u rfl).u rfl).u rfl).u rfl).u rfl).u rfl).u rfl).u rfl).u rfl).u rfl).u rfl).u rfl, (hH106.sub (.cons _ (List.Sublist.refl _))), (congrArg I (by rfl)), ?_, ?_, ?_, ?_⟩
              · ((try dsimp only); omega)
              · omega
              · omega
              · exact ⟨_, _, rfl, hF104.more (by omega)⟩
              · exact step_pre hpre fs.2.2.1 (by omega)
            · refine RL.gT rfl (bF h80) ?_
              refine RL.val rfl (run_fieldAddr Try.underlying46 rfl (off := 1) rfl Try.sizeOf3 (by decide) rfl) ?_
              refine RL.gT rfl (bF h80) ?_
              refine RL.val rfl (run_ld Try.underlying3 rfl rfl (hH78.cell (i := 0) rfl (v := I _) rfl)) ?_
              refine RL.gT rfl (bF h80) ?_
              refine RL.val rfl (run_move e10_71) ?_
              refine RL.gT rfl (bF h80) ?_
              refine RL.val rfl (run_geq rfl rfl) ?_
              refine RL.val rfl (run_pickF (bF h80) (v := B _) rfl) ?_
              refine RL.nil ?_
              refine CW.condP rfl (fun h108 => ?_) (fun h108 => ?_)
              · refine CW.regionS (by kernel_rfl) hH78 (.cons_cons _ (.cons_cons _ (List.sublist_append_of_sublist_right (List.Sublist.refl _)))) ?_
                intro w109 hH110
                refine AN.take 0 rfl rfl (by kernel_rfl) (by kernel_rfl) (by kernel_rfl) (hH110.sub (.cons_cons _ (.cons_cons _ (List.sublist_append_of_sublist_right (List.Sublist.refl _))))) (fun w hS => run_move e5_71) ?_
                refine AN.take 2 rfl rfl (by kernel_rfl) (by kernel_rfl) (by kernel_rfl) (hH110.sub (.cons_cons _ (.cons_cons _ (List.sublist_append_of_sublist_right (List.Sublist.refl _))))) (fun w hS => run_ldA (cs := [I _, I _, I _]) Try.underlying46 rfl rfl rfl (rangeAt_cells (hS.blk (i := 0) rfl))) ?_
                refine AN.one 1 (by kernel_rfl) ?_
                refine AO.callF rfl gnone rfl hH110 (.cons_cons _ (.cons_cons _ (List.sublist_append_of_sublist_right (List.Sublist.refl _)))) (c_clearanceref21_New (Kz (Kw w) Zv)   _ (hH110.kz (Le.refl _) (fun x hx => (List.mem_cons_of_mem _ (List.mem_cons_of_mem _ (List.mem_append_right _ hx)))))) (run_call0 Try.call14) ?_
                intro v113 w114 Z116 hH115 hp117
                have hH118 : Hp _ w114 (_ :: _ :: (Z116 ++ (Zf ++ Zv))) := hH115.zin (L := [_, _]) (L' := (Zf ++ Zv))
                have hH120 : Hp _ w114 (_ :: _ :: (Zf ++ (Z116 ++ Zv))) := Hp.swz (A := [_, _]) hH118
                obtain ⟨n121, rfl, nd122, nv123⟩ := hp117
                refine AN.one 3 (by kernel_rfl) ?_
                refine AO.callT rfl gnone rfl (c_clearancelaw21_do _ _ _ _ _ (Z116 ++ Zv) _ _ _ (by omega) (by rw [← cs_len, nd122]; decide) (by rw [← now_cs ((nv123.mono Le.kk)).ne, nd122]; decide) _ hF2 (nv123.mono Le.kk) (Hp.zdo (A := [_, _]) hH120)) (run_call3 Try.call15 rfl rfl rfl) (fun u w' ⟨_, Z', z', _, _, _, _, h⟩ => Hp.sub (L := _ :: _ :: (Z' ++ (z' ++ (Z116 ++ Zv)))) (Hp.zdone (A := [_, _]) h) (.cons_cons _ (.cons_cons _ (List.sublist_append_of_sublist_right (List.sublist_append_of_sublist_right (List.sublist_append_of_sublist_right (List.Sublist.refl _))))))) ?_
                rintro _ w129 ⟨y126, Z127, z128, rfl, yc130, yv131, hF132, h133⟩
                have hH134 : Hp _ w129 (_ :: _ :: (Z127 ++ (z128 ++ (Z116 ++ Zv)))) := (Hp.zdone (A := [_, _]) h133)
                refine AN.done (by kernel_rfl) ?_
                refine CW.region ?_
                refine RL.val rfl (run_add e54_71 rfl (by omega)) ?_
                refine RL.val rfl (run_move (v := I _) rfl) ?_
                refine RL.nil ?_
                refine ⟨(p + 1, stepC ds (m.getD p.toNat op0), (Z127 ++ (z128 ++ (Z116 ++ Zv)))), ?_, ((((((((((((((((((fr71.u rfl).u rfl).u rfl).u rfl).u rfl).u rfl).u rfl).u rfl).u rfl).u rfl).u rfl).u rfl).u rfl).u rfl).u rfl).u rfl).u rfl).u rfl).u rfl, (hH134.sub (.cons _ (List.Sublist.refl _))), (congrArg I (by rfl)), ?_, ?_, ?_, ?_⟩
                · ((try dsimp only); omega)
                · omega
                · omega
                · exact ⟨_, _, rfl, hF132.more (by omega)⟩
                · exact step_pre hpre fs.2.2.1 (by omega)
              · refine CW.skip ?_
                refine CW.region ?_
                refine RL.val rfl (run_add e54_71 rfl (by omega)) ?_
                refine RL.val rfl (run_move (v := I _) rfl) ?_
                refine RL.nil ?_
                refine ⟨(p + 1, ds, (Zf ++ Zv)), ?_, ((((((((((((((fr71.u rfl).u rfl).u rfl).u rfl).u rfl).u rfl).u rfl).u rfl).u rfl).u rfl).u rfl).u rfl).u rfl).u rfl).u rfl, (hH78.sub (.cons _ (List.Sublist.refl _))), (congrArg I (by rfl)), ?_, ?_, ?_, ?_⟩
                · ((try dsimp only); omega)
                · omega
                · omega
                · exact ⟨_, _, rfl, hF2.more (by omega)⟩
                · exact ⟨pre, hpre⟩
          · refine CW.exit (id := 4) rfl ?_
            refine CW.seq ?_
            refine CW.seq ?_
            refine CW.region ?_
            refine RL.val rfl (run_move e5_71) ?_
            refine RL.val rfl (run_move e10_71) ?_
            have hu := undo_pre hpre fs.2.2.1
            refine RL.callT rfl (m_Undo _ (by omega) hF2 (Hp.zfront (A := [_]) hH71)) (run_call2 Try.call25 rfl rfl) ?_
            rintro _ w137 ⟨rfl, Z138, hF139, h140⟩
            have hH141 : Hp _ w137 (_ :: (Z138 ++ Zv)) := (Hp.zback (A := [_]) h140)
            rw [hu] at hF139
            dsimp only at hF139
            refine RL.val rfl (run_not (bR (c := true) ((by rw [hu])))) ?_
            refine RL.val rfl (run_move (v := B _) rfl) ?_
            refine RL.gT rfl rfl ?_
            refine RL.val rfl (run_move e5_71) ?_
            refine RL.gT rfl rfl ?_
            refine RL.callP rfl hH141 (m_Mark hF139 hH141 (fun x hx => (List.mem_cons_of_mem _ (List.mem_append_left _ hx)))) (run_call1 Try.call20 rfl) ?_
            intro w143 hH144
            refine RL.gT rfl rfl ?_
            refine RL.val rfl (run_move e10_71) ?_
            refine RL.gT rfl rfl ?_
            refine RL.val rfl (run_neq rfl rfl) ?_
            refine RL.val rfl (run_pickF rfl (v := B _) rfl) ?_
            refine RL.val rfl (run_move (v := B _) rfl) ?_
            refine RL.gT rfl (bF ((fun h => h (rfl)))) ?_
            refine RL.val rfl (run_move e5_71) ?_
            refine RL.gT rfl (bF ((fun h => h (rfl)))) ?_
            refine RL.callP rfl hH144 (m_Count hF139 hH144 (fun x hx => (List.mem_cons_of_mem _ (List.mem_append_left _ hx)))) (run_call1 Try.call18 rfl) ?_
            intro w146 hH147
            refine RL.gT rfl (bF ((fun h => h (rfl)))) ?_
            refine RL.val rfl (run_move e11_71) ?_
            refine RL.gT rfl (bF ((fun h => h (rfl)))) ?_
            refine RL.val rfl (run_neq rfl rfl) ?_
            refine RL.val rfl (run_pickF (bF ((fun h => h (rfl)))) (v := B _) rfl) ?_
            refine RL.val rfl (run_move (v := B _) rfl) ?_
            refine RL.gT rfl (bF ((fun h => h (rfl)))) ?_
            refine RL.val rfl (run_move e5_71) ?_
            refine RL.gT rfl (bF ((fun h => h (rfl)))) ?_
            refine RL.callP rfl hH147 (m_Len (by omega) hF139 hH147 (fun x hx => (List.mem_cons_of_mem _ (List.mem_append_left _ hx)))) (run_call1 Try.call16 rfl) ?_
            intro w149 hH150
            refine RL.gT rfl (bF ((fun h => h (rfl)))) ?_
            refine RL.val rfl (run_move e8_71) ?_
            refine RL.gT rfl (bF ((fun h => h (rfl)))) ?_
            refine RL.val rfl (run_lenSl (hH150.sl (i := 0) rfl) rfl Try.underlying37 rfl) ?_
            refine RL.gT rfl (bF ((fun h => h (rfl)))) ?_
            refine RL.val rfl (run_neq rfl rfl) ?_
            refine RL.val rfl (run_pickF (bF ((fun h => h (rfl)))) (v := B _) rfl) ?_
            refine RL.nil ?_
            refine CW.condF (bF ((fun h => h (by omega)))) ?_
            refine CW.skip ?_
            refine CW.seq ?_
            refine CW.seq ?_
            refine CW.region ?_
            refine RL.val rfl (run_move e8_71) ?_
            refine RL.val rfl (run_lenSl (hH150.sl (i := 0) rfl) rfl Try.underlying37 rfl) ?_
            refine RL.val rfl (run_move (v := I 0) rfl) ?_
            refine RL.nil ?_
            refine CW.block ?_
            refine CW.loop (G := (Int)) (fun (r : Int) s' w' => (Fr [4, 14, 97, 98, 99, 100, 101, 102, 103, 104, 105, 106, 107, 108] _ s') ∧ (Hp w w' _) ∧ (s' 97 = I r) ∧ (0 ≤ r)) (fun (r : Int) => (o.length - r).toNat) (0) ⟨Fr.refl _ _, hH150, rfl, (by omega)⟩ ?_
            rintro r sg152 w152 ⟨fr152, hH152, e97_152, r0⟩
            have e5_152 := (fr152 5 rfl).trans e5_71
            have e8_152 := (fr152 8 rfl).trans e8_71
            have e96_152 : sg152 96 = I _ := (fr152 96 rfl).trans rfl
            refine CW.seq ?_
            refine CW.region ?_
            refine RL.val rfl (run_lss e97_152 e96_152) ?_
            refine RL.nil ?_
            refine CW.seq ?_
            refine CW.condP rfl (fun h154 => ?_) (fun h154 => ?_)
            · refine CW.skip ?_
              refine CW.seq ?_
              refine CW.block ?_
              refine CW.seq ?_
              refine CW.region ?_
              refine RL.val rfl (run_move e97_152) ?_
              refine RL.val rfl (run_assign (v := I _) rfl) ?_
              refine RL.nil ?_
              refine CW.seq ?_
              refine CW.regionD (by kernel_rfl) hH152 ?_
              intro w155 hH156
              refine AN.take 0 rfl rfl (by kernel_rfl) (by kernel_rfl) (by kernel_rfl) (hH156.sub (List.Sublist.refl _)) (fun w hS => run_move e5_152) ?_
              refine AN.take 1 rfl rfl (by kernel_rfl) (by kernel_rfl) (by kernel_rfl) (hH156.sub (List.Sublist.refl _)) (fun w hS => run_move (v := I _) rfl) ?_
              refine AN.take 3 rfl rfl (by kernel_rfl) (by kernel_rfl) (by kernel_rfl) (hH156.sub (List.Sublist.refl _)) (fun w hS => run_move e8_152) ?_
              refine AN.take 4 rfl rfl (by kernel_rfl) (by kernel_rfl) (by kernel_rfl) (hH156.sub (List.Sublist.refl _)) (fun w hS => run_move (v := I _) rfl) ?_
              refine AN.take 5 rfl rfl (by kernel_rfl) (by kernel_rfl) (by kernel_rfl) (hH156.sub (List.Sublist.refl _)) (fun w hS => run_indexAddrS (hS.sl (i := 0) rfl) Try.underlying37 Try.sizeOf3 rfl rfl (by omega)) ?_
              refine AN.take 6 rfl rfl (by kernel_rfl) (by kernel_rfl) (by kernel_rfl) (hH156.sub (List.Sublist.refl _)) (fun w hS => run_ld Try.underlying3 rfl rfl ((hS.sl (i := 0) rfl).cell _ _ (map_at (by omega)))) ?_
              refine AN.one 2 (by kernel_rfl) ?_
              refine AO.callP rfl gnone rfl hH156 (List.Sublist.refl _) (m_Find _ (by omega) hF139 hH156 (fun x hx => (List.mem_cons_of_mem _ (List.mem_append_left _ hx)))) (run_call2 Try.call11 rfl rfl) ?_
              intro w157 hH158
              refine AN.take 7 rfl rfl (by kernel_rfl) (by kernel_rfl) (by kernel_rfl) (hH158.sub (List.Sublist.refl _)) (fun w hS => run_neq rfl rfl) ?_
              refine AN.done (by kernel_rfl) ?_
              refine CW.condF (bF ((fun h => h (by rw [ho]; exact fd_at (by omega))))) ?_
              refine CW.skip ?_
              refine CW.region ?_
              refine RL.val rfl (run_add e97_152 rfl (by omega)) ?_
              refine RL.val rfl (run_move (v := I _) rfl) ?_
              refine RL.nil ?_
              refine ⟨r + 1, ?_, ((((((((((((fr152.u rfl).u rfl).u rfl).u rfl).u rfl).u rfl).u rfl).u rfl).u rfl).u rfl).u rfl).u rfl).u rfl, hH158, (congrArg I (by rfl)), ?_⟩
              · ((try dsimp only); omega)
              · omega
            · refine CW.exit (id := 6) rfl ?_
              refine CW.seq ?_
              refine CW.region ?_
              refine RL.callP rfl hH152 (c_clearancelaw21_alive   _) (run_call0 Try.call7) ?_
              intro w160 hH161
              refine RL.val rfl (run_assign (v := B _) rfl) ?_
              refine RL.nil ?_
              refine CW.ret ?_
              refine outP1 Try.results5 (congrArg B ?_) hH161.below
              rfl
end Go.Proofs.Ytphknfjaellkjaa.W
