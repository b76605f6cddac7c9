/-
  The walks of the functions that the laws of this seat reach, part 2: each returns what its plain counterpart tells, and turns nothing that was there.
-/
import Derived.Test.YtphknfjaellkjaaProg
import Derived.Test.YtphknfjaellkjaaEnv
import Derived.Test.YtphknfjaellkjaaPlain
import Derived.Test.YtphknfjaellkjaaBase
import Derived.WalkKit
import Derived.Ground.NamesProg
import Derived.Shelf.Slices.In.SortNone
import Derived.Sort.EveryDepth
import Derived.Sort.OwnSortedInts
import Derived.Test.YtphknfjaellkjaaOrd
import Derived.Test.YtphknfjaellkjaaRel
import Derived.Test.YtphknfjaellkjaaClo
import Derived.Test.YtphknfjaellkjaaCov
import Derived.Test.YtphknfjaellkjaaArr
import Derived.Test.YtphknfjaellkjaaHas
import Derived.Test.YtphknfjaellkjaaStr
import Derived.Test.YtphknfjaellkjaaVu
import Derived.Test.YtphknfjaellkjaaGrd
import Derived.Test.YtphknfjaellkjaaShp
import Derived.Test.YtphknfjaellkjaaShq
import Derived.Test.YtphknfjaellkjaaCut
import Derived.Test.YtphknfjaellkjaaRec
import Derived.Test.YtphknfjaellkjaaScp
import Derived.Test.YtphknfjaellkjaaByt
import Derived.Test.YtphknfjaellkjaaNod
import Derived.Test.YtphknfjaellkjaaSpl
import Derived.Test.YtphknfjaellkjaaSpn
import Derived.Test.YtphknfjaellkjaaSpx
import Derived.Test.YtphknfjaellkjaaSpy
import Derived.Test.YtphknfjaellkjaaAsn
import Derived.Test.YtphknfjaellkjaaAsp
import Derived.Test.YtphknfjaellkjaaMk
import Derived.Test.YtphknfjaellkjaaAsr
import Derived.Test.YtphknfjaellkjaaAst
import Derived.Test.YtphknfjaellkjaaGap
import Derived.Test.YtphknfjaellkjaaFst
import Derived.Test.YtphknfjaellkjaaFsu
import Derived.Test.YtphknfjaellkjaaFsv
import Derived.Test.YtphknfjaellkjaaFsx
import Derived.Test.YtphknfjaellkjaaCel
import Derived.Test.YtphknfjaellkjaaFsw
import Derived.Test.YtphknfjaellkjaaFor
import Derived.Test.YtphknfjaellkjaaFov
import Derived.Test.YtphknfjaellkjaaRch
import Derived.Test.YtphknfjaellkjaaForestReachesPacesA
namespace Go.Proofs.Ytphknfjaellkjaa.W
open Go Go.RowKit Go.Proofs.Ytphknfjaellkjaa.E Go.Proofs.Ytphknfjaellkjaa.M
set_option linter.unusedVariables false
set_option linter.unusedSimpArgs false
set_option maxRecDepth 100000
theorem c_clearancelaw21_ForestReaches (a0 : Int) (v : Value) (l : List (Int × Int)) (p q : Int) (hb : 0 ≤ a0 ∧ a0 ≤ 255) (w : World) (hs : Sl w v 2 l.length (prL l)) : Calls Try.prog 3 #[.int .u8 a0, v, .agg #[I p, I q]] w (Pure (B true) w) := by
  have hm := hs.small
  unfold maxLen at hm
  refine enter Try.func3 rfl Try.ntmps3 rfl ?_
  have hH := Hp.start w
  refine CW.seq ?_
  refine CW.region ?_
  refine RL.new rfl hH (f := fun b => (.pointer (some ⟨b, 0, none⟩))) (run_box (v := .agg _) rfl) ?_
  intro b3 w1 hH2
  refine RL.val rfl (run_assign (v := B false) rfl) ?_
  refine RL.nil ?_
  refine CW.seq ?_
  refine CW.seq ?_
  refine CW.region ?_
  refine RL.val rfl (run_move (by conv => lhs; whnf)) ?_
  refine RL.val rfl (run_lenSl (hs.hp hH2) rfl Try.underlying22 rfl) ?_
  refine RL.val rfl (run_gtr rfl rfl) ?_
  refine RL.nil ?_
  refine CW.condP rfl (fun h5 => ?_) (fun h5 => ?_)
  · refine CW.seq ?_
    refine CW.region ?_
    refine RL.callP rfl hH2 (c_clearancelaw21_alive   _) (run_call0 Try.call7) ?_
    intro w6 hH7
    refine RL.val rfl (run_assign (v := B _) rfl) ?_
    refine RL.nil ?_
    refine CW.ret ?_
    refine outP1 Try.results3 (congrArg B ?_) hH7.below
    rfl
  · refine CW.skip ?_
    refine CW.seq ?_
    refine CW.region ?_
    refine RL.callT rfl (c_forest_New _) (run_call0 Try.call8) ?_
    rintro _ w13 ⟨F11, Zf12, rfl, hz14, hF15⟩
    have hH16 : Hp _ w13 (_ :: Zf12) := Hp.unZ (A := [_]) (Hp.zin (L := [_]) (L' := []) ((Hp.nilT (L := [_]) hH2).callZ hz14))
    refine RL.val rfl (run_assign (v := .pointer (some ⟨_, _, none⟩)) rfl) ?_
    refine RL.nil ?_
    refine CW.seq ?_
    refine CW.region ?_
    refine RL.val rfl (run_move (v := .int _ _) rfl) ?_
    refine RL.val rfl (run_remK rfl rfl (by omega) (by omega)) ?_
    refine RL.val rfl (run_convUI Try.underlying5 Try.underlying3 rfl (by omega)) ?_
    refine RL.val rfl (run_bld (vs := [(0, I _)]) rfl (built_rel _)) ?_
    refine RL.new rfl hH16 (f := fun b => (.pointer (some ⟨b, 0, none⟩))) (run_alloc zero_rel) ?_
    intro b19 w17 hH18
    refine RL.set hH18 (i := 0) rfl (run_stRel rfl rfl rfl (hH18.blk (i := 0) rfl)) ?_
    intro w20 hH21
    simp only [List.set_cons_zero, List.set_cons_succ] at hH21
    refine RL.nil ?_
    refine CW.seq ?_
    refine CW.seq ?_
    refine CW.region ?_
    refine RL.val rfl (run_fieldAddr Try.underlying31 rfl (off := 0) rfl Try.sizeOf3 (by decide) rfl) ?_
    refine RL.val rfl (run_ld Try.underlying3 rfl rfl (hH21.cell (i := 0) rfl (relC_N _))) ?_
    refine RL.val rfl (run_move (v := I 0) rfl) ?_
    refine RL.nil ?_
    refine CW.block ?_
    have hna : 0 ≤ a0 % 61 ∧ a0 % 61 ≤ 60 := by omega
    have hz : (⟨a0 % 61, fun _ => 0#64⟩ : Rl).n = a0 % 61 := rfl
    refine CW.loop (G := (Int) × (List (List Nat)) × (List Ent)) (fun (⟨k, cs, Z1⟩ : (Int) × (List (List Nat)) × (List Ent)) s' w' => (Fr [23, 24, 25, 26, 27] _ s') ∧ (Hp w w' (_ :: _ :: Z1)) ∧ (s' 23 = I k) ∧ (0 ≤ k) ∧ (k ≤ a0 % 61) ∧ (StF FX F11 k.toNat cs Z1) ∧ (nowC cs = List.range k.toNat)) (fun (⟨k, cs, Z1⟩ : (Int) × (List (List Nat)) × (List Ent)) => (a0 % 61 - k).toNat) ((0, [[]], Zf12)) ⟨Fr.refl _ _, hH21, rfl, (by omega), (by omega), ⟨_, [], (List.append_nil _).symm, hF15⟩, rfl⟩ ?_
    rintro ⟨k, cs, Z1⟩ sg22 w22 ⟨fr22, hH22, e23_22, h0, hk, hS, hnow⟩
    have e1_22 := (fr22 1 rfl).trans (by conv => lhs; whnf)
    have e5_22 : sg22 5 = .pointer (some ⟨_, _, none⟩) := (fr22 5 rfl).trans rfl
    have e6_22 : sg22 6 = B _ := (fr22 6 rfl).trans rfl
    have e7_22 : sg22 7 = .pointer (some ⟨_, _, none⟩) := (fr22 7 rfl).trans rfl
    have e8_22 : sg22 8 = .pointer (some ⟨_, _, none⟩) := (fr22 8 rfl).trans rfl
    have e22_22 : sg22 22 = I _ := (fr22 22 rfl).trans rfl
    obtain ⟨Zf, Zv, rfl, hF⟩ := hS
    refine CW.seq ?_
    refine CW.region ?_
    refine RL.val rfl (run_lss e23_22 e22_22) ?_
    refine RL.nil ?_
    refine CW.seq ?_
    refine CW.condP rfl (fun h24 => ?_) (fun h24 => ?_)
    · refine CW.skip ?_
      refine CW.seq ?_
      refine CW.block ?_
      refine CW.region ?_
      refine RL.val rfl (run_move e7_22) ?_
      refine RL.callT rfl (m_Add (by omega) hF (Hp.zfront (A := [_, _]) hH22)) (run_call1 Try.call9 rfl) ?_
      rintro _ w27 ⟨rfl, Z28, hF29, h30⟩
      have hH31 : Hp _ w27 (_ :: _ :: (Z28 ++ Zv)) := (Hp.zback (A := [_, _]) h30)
      refine RL.nil ?_
      refine CW.region ?_
      refine RL.val rfl (run_add e23_22 rfl (by omega)) ?_
      refine RL.val rfl (run_move (v := I _) rfl) ?_
      refine RL.nil ?_
      refine ⟨(k + 1, addC cs, (Z28 ++ Zv)), ?_, ((((fr22.u rfl).u rfl).u rfl).u rfl).u rfl, hH31, (congrArg I (by rfl)), ?_, ?_, ?_, ?_⟩
      · ((try dsimp only); omega)
      · omega
      · omega
      · exact ⟨_, _, rfl, hF29.more (by omega)⟩
      · rw [now_add, hnow, List.length_range, show (k + 1).toNat = k.toNat + 1 by omega, List.range_succ]
    · refine CW.exit (id := 0) rfl ?_
      refine CW.seq ?_
      refine CW.seq ?_
      refine CW.region ?_
      refine RL.val rfl (run_move e1_22) ?_
      refine RL.val rfl (run_lenSl (hs.hp hH22) rfl Try.underlying22 rfl) ?_
      refine RL.val rfl (run_move (v := I 0) rfl) ?_
      refine RL.nil ?_
      refine CW.block ?_
      have hst := RelC.start hna
      rw [show (a0 % 61).toNat = k.toNat by omega, ← hnow] at hst
      refine CW.loop (G := (Int) × (List (List Nat)) × (Rl) × (List Ent)) (fun (⟨k, ds, r, Z2⟩ : (Int) × (List (List Nat)) × (Rl) × (List Ent)) s' w' => (Fr [6, 10, 11, 30, 31, 32, 33, 34, 35, 36, 37, 38, 39, 40, 41, 42, 43, 44, 45, 46, 47, 48, 49, 50, 51, 52, 53, 54, 55, 56, 57, 58, 59, 60, 61, 62, 63, 64, 65, 66, 67, 68, 69, 70, 71, 72, 73, 74, 75, 76, 77, 78, 79, 80, 81, 82, 83, 84, 85, 86, 87, 88, 89, 90, 91] _ s') ∧ (Hp w w' (.blk b19 (.cells (relC r) 31 (0, 0)) :: _ :: Z2)) ∧ (s' 30 = I k) ∧ (0 ≤ k) ∧ (k ≤ l.length) ∧ (StF FX F11 (60 + k.toNat) ds Z2) ∧ (r.n = a0 % 61) ∧ (RelC r (nowC ds))) (fun (⟨k, ds, r, Z2⟩ : (Int) × (List (List Nat)) × (Rl) × (List Ent)) => (l.length - k).toNat) ((0, cs, ⟨a0 % 61, fun _ => 0#64⟩, (Zf ++ Zv))) ⟨Fr.refl _ _, hH22, rfl, (by omega), (by omega), ⟨_, _, rfl, hF.more (by omega)⟩, rfl, hst⟩ ?_
      rintro ⟨k, ds, r, Z2⟩ sg32 w32 ⟨fr32, hH32, e30_32, p0, hp, hS, hrn, hC⟩
      have e5_32 := (fr32 5 rfl).trans e5_22
      have e7_32 := (fr32 7 rfl).trans e7_22
      have e8_32 := (fr32 8 rfl).trans e8_22
      have e28_32 := (fr32 28 rfl).trans (by conv => lhs; whnf)
      have e29_32 : sg32 29 = I _ := (fr32 29 rfl).trans rfl
      obtain ⟨Zf, Zv, rfl, hF2⟩ := hS
      have hpn : ((nowC ds).length : Int) = a0 % 61 := by have := hC.n; have e : pts r = a0 % 61 := (by unfold pts; omega); omega
      refine CW.seq ?_
      refine CW.region ?_
      refine RL.val rfl (run_lss e30_32 e29_32) ?_
      refine RL.nil ?_
      refine CW.seq ?_
      refine CW.condP rfl (fun h34 => ?_) (fun h34 => ?_)
      · refine CW.skip ?_
        refine CW.seq ?_
        refine CW.block ?_
        refine CW.seq ?_
        refine CW.region ?_
        refine RL.val rfl (run_indexAddrS (hs.hp hH32) Try.underlying22 Try.sizeOf24 e28_32 e30_32 (by omega)) ?_
        refine RL.val rfl (run_ldPair (hs.hp hH32) Try.underlying24 rfl rfl rfl (by omega)) ?_
        refine RL.new rfl hH32 (f := fun b => (.pointer (some ⟨b, 0, none⟩))) (run_alloc Try.zeroValue24) ?_
        intro b37 w35 hH36
        refine RL.set hH36 (i := 0) rfl (run_stW (c' := #[I _, I _]) rfl rfl rfl (pair_one _ _) (hH36.blk (i := 0) rfl) rfl) ?_
        intro w38 hH39
        simp only [List.set_cons_zero, List.set_cons_succ] at hH39
        refine RL.nil ?_
        refine CW.cutG (G := Unit) hH39 [11, 34, 35, 36, 37, 38, 39, 40, 41, 42, 43, 44, 45, 46, 47, 48, 49, 50, 51, 52, 53, 54, 55] (fun (L : List Ent) (_u : Unit) => L) (fun (_u : Unit) s' => (s' 11 = B (decide (inPr (a0 % 61) (l.getD k.toNat (0, 0)).1 (l.getD k.toNat (0, 0)).2)))) ?_ ?_
        · refine CW.region ?_
          refine RL.val rfl (run_fieldAddr Try.underlying24 rfl (off := 0) rfl Try.sizeOf3 (by decide) rfl) ?_
          refine RL.val rfl (run_ld Try.underlying3 rfl rfl (hH39.cell (i := 0) rfl (v := I _) rfl)) ?_
          refine RL.val rfl (run_geq rfl rfl) ?_
          refine RL.val rfl (run_move (v := B _) rfl) ?_
          refine RL.splitP (dj := 37) rfl (fun h41 => ?_) (fun h41 => ?_)
          · refine RL.gT rfl (bT h41) ?_
            refine RL.val rfl (run_fieldAddr Try.underlying24 rfl (off := 1) rfl Try.sizeOf3 (by decide) rfl) ?_
            refine RL.gT rfl (bT h41) ?_
            refine RL.val rfl (run_ld Try.underlying3 rfl rfl (hH39.cell (i := 0) rfl (v := I _) rfl)) ?_
            refine RL.gT rfl (bT h41) ?_
            refine RL.val rfl (run_geq rfl rfl) ?_
            refine RL.val rfl (run_pickT (bT h41) (v := B _) rfl) ?_
            refine RL.val rfl (run_move (v := B _) rfl) ?_
            refine RL.splitP (dj := 42) rfl (fun h43 => ?_) (fun h43 => ?_)
            · refine RL.gT rfl (bT h43) ?_
              refine RL.val rfl (run_fieldAddr Try.underlying24 rfl (off := 0) rfl Try.sizeOf3 (by decide) rfl) ?_
              refine RL.gT rfl (bT h43) ?_
              refine RL.val rfl (run_ld Try.underlying3 rfl rfl (hH39.cell (i := 0) rfl (v := I _) rfl)) ?_
              refine RL.gT rfl (bT h43) ?_
              refine RL.val rfl (run_fieldAddr Try.underlying31 rfl (off := 0) rfl Try.sizeOf3 (by decide) e8_32) ?_
              refine RL.gT rfl (bT h43) ?_
              refine RL.val rfl (run_ld Try.underlying3 rfl rfl (hH39.cell (i := 1) rfl (relC_N _))) ?_
              refine RL.gT rfl (bT h43) ?_
              refine RL.val rfl (run_lss rfl rfl) ?_
              refine RL.val rfl (run_pickT (bT h43) (v := B _) rfl) ?_
              refine RL.val rfl (run_move (v := B _) rfl) ?_
              refine RL.splitP (dj := 49) rfl (fun h45 => ?_) (fun h45 => ?_)
              · refine RL.gT rfl (bT h45) ?_
                refine RL.val rfl (run_fieldAddr Try.underlying24 rfl (off := 1) rfl Try.sizeOf3 (by decide) rfl) ?_
                refine RL.gT rfl (bT h45) ?_
                refine RL.val rfl (run_ld Try.underlying3 rfl rfl (hH39.cell (i := 0) rfl (v := I _) rfl)) ?_
                refine RL.gT rfl (bT h45) ?_
                refine RL.val rfl (run_fieldAddr Try.underlying31 rfl (off := 0) rfl Try.sizeOf3 (by decide) e8_32) ?_
                refine RL.gT rfl (bT h45) ?_
                refine RL.val rfl (run_ld Try.underlying3 rfl rfl (hH39.cell (i := 1) rfl (relC_N _))) ?_
                refine RL.gT rfl (bT h45) ?_
                refine RL.val rfl (run_lss rfl rfl) ?_
                refine RL.val rfl (run_pickT (bT h45) (v := B _) rfl) ?_
                refine RL.val rfl (run_assign (v := B _) rfl) ?_
                refine RL.nil ?_
                refine ⟨((((((((((((((((((((((((Fr.refl _ _)).u rfl).u rfl).u rfl).u rfl).u rfl).u rfl).u rfl).u rfl).u rfl).u rfl).u rfl).u rfl).u rfl).u rfl).u rfl).u rfl).u rfl).u rfl).u rfl).u rfl).u rfl).u rfl).u rfl, (), hH39, (congrArg B ?_)⟩
                · exact decide_eq_decide.2 (by unfold inPr; omega)
              · refine RL.gF rfl rfl (bF h45) rfl ?_
                refine RL.gF rfl rfl (bF h45) rfl ?_
                refine RL.gF rfl rfl (bF h45) rfl ?_
                refine RL.gF rfl rfl (bF h45) rfl ?_
                refine RL.gF rfl rfl (bF h45) rfl ?_
                refine RL.val rfl (run_pickF (bF h45) (v := B false) rfl) ?_
                refine RL.val rfl (run_assign (v := B _) rfl) ?_
                refine RL.nil ?_
                refine ⟨((((((((((((((((((((((((Fr.refl _ _)).u rfl).u rfl).u rfl).u rfl).u rfl).u rfl).u rfl).u rfl).u rfl).u rfl).u rfl).u rfl).u rfl).u rfl).u rfl).u rfl).u rfl).u rfl).u rfl).u rfl).u rfl).u rfl).u rfl, (), hH39, (congrArg B ?_)⟩
                · exact (decide_eq_false (p := inPr (a0 % 61) (l.getD k.toNat (0, 0)).1 (l.getD k.toNat (0, 0)).2) fun h => by unfold inPr at h; omega).symm
            · refine RL.gF rfl rfl (bF h43) rfl ?_
              refine RL.gF rfl rfl (bF h43) rfl ?_
              refine RL.gF rfl rfl (bF h43) rfl ?_
              refine RL.gF rfl rfl (bF h43) rfl ?_
              refine RL.gF rfl rfl (bF h43) rfl ?_
              refine RL.val rfl (run_pickF (bF h43) (v := B false) rfl) ?_
              refine RL.val rfl (run_move (v := B _) rfl) ?_
              refine RL.gF rfl rfl rfl rfl ?_
              refine RL.gF rfl rfl rfl rfl ?_
              refine RL.gF rfl rfl rfl rfl ?_
              refine RL.gF rfl rfl rfl rfl ?_
              refine RL.gF rfl rfl rfl rfl ?_
              refine RL.val rfl (run_pickF rfl (v := B false) rfl) ?_
              refine RL.val rfl (run_assign (v := B _) rfl) ?_
              refine RL.nil ?_
              refine ⟨((((((((((((((((((((((((Fr.refl _ _)).u rfl).u rfl).u rfl).u rfl).u rfl).u rfl).u rfl).u rfl).u rfl).u rfl).u rfl).u rfl).u rfl).u rfl).u rfl).u rfl).u rfl).u rfl).u rfl).u rfl).u rfl).u rfl).u rfl, (), hH39, (congrArg B ?_)⟩
              · exact (decide_eq_false (p := inPr (a0 % 61) (l.getD k.toNat (0, 0)).1 (l.getD k.toNat (0, 0)).2) fun h => by unfold inPr at h; omega).symm
          · refine RL.gF rfl rfl (bF h41) rfl ?_
            refine RL.gF rfl rfl (bF h41) rfl ?_
            refine RL.gF rfl rfl (bF h41) rfl ?_
            refine RL.val rfl (run_pickF (bF h41) (v := B false) rfl) ?_
            refine RL.val rfl (run_move (v := B _) rfl) ?_
            refine RL.gF rfl rfl rfl rfl ?_
            refine RL.gF rfl rfl rfl rfl ?_
            refine RL.gF rfl rfl rfl rfl ?_
            refine RL.gF rfl rfl rfl rfl ?_
            refine RL.gF rfl rfl rfl rfl ?_
            refine RL.val rfl (run_pickF rfl (v := B false) rfl) ?_
            refine RL.val rfl (run_move (v := B _) rfl) ?_
            refine RL.gF rfl rfl rfl rfl ?_
            refine RL.gF rfl rfl rfl rfl ?_
            refine RL.gF rfl rfl rfl rfl ?_
            refine RL.gF rfl rfl rfl rfl ?_
            refine RL.gF rfl rfl rfl rfl ?_
            refine RL.val rfl (run_pickF rfl (v := B false) rfl) ?_
            refine RL.val rfl (run_assign (v := B _) rfl) ?_
            refine RL.nil ?_
            refine ⟨((((((((((((((((((((((((Fr.refl _ _)).u rfl).u rfl).u rfl).u rfl).u rfl).u rfl).u rfl).u rfl).u rfl).u rfl).u rfl).u rfl).u rfl).u rfl).u rfl).u rfl).u rfl).u rfl).u rfl).u rfl).u rfl).u rfl).u rfl, (), hH39, (congrArg B ?_)⟩
            · exact (decide_eq_false (p := inPr (a0 % 61) (l.getD k.toNat (0, 0)).1 (l.getD k.toNat (0, 0)).2) fun h => by unfold inPr at h; omega).symm
        · rintro _u sg47 w47 fr47 hH47 e11_47
          have e5_47 := (fr47 5 rfl).trans e5_32
          have e7_47 := (fr47 7 rfl).trans e7_32
          have e8_47 := (fr47 8 rfl).trans e8_32
          have e10_47 : sg47 10 = .pointer (some ⟨_, _, none⟩) := (fr47 10 rfl).trans rfl
          have e28_47 := (fr47 28 rfl).trans e28_32
          have e29_47 := (fr47 29 rfl).trans e29_32
          have e30_47 := (fr47 30 rfl).trans e30_32
          have e31_47 := (fr47 31 rfl).trans (by conv => lhs; whnf)
          have e32_47 : sg47 32 = .pointer (some ⟨_, _, none⟩) := (fr47 32 rfl).trans rfl
          have e33_47 : sg47 33 = .agg _ := (fr47 33 rfl).trans rfl
          refine CW.seq ?_
          refine CW.seq ?_
          refine CW.region ?_
          refine RL.val rfl (run_move e11_47) ?_
          refine RL.nil ?_
          refine CW.condP rfl (fun h49 => ?_) (fun h49 => ?_)
          · refine CW.seq ?_
            refine CW.regionS (by kernel_rfl) hH47 (.cons_cons _ (.cons _ (List.Sublist.refl _))) ?_
            intro w50 hH51
            refine AN.take 0 rfl rfl (by kernel_rfl) (by kernel_rfl) (by kernel_rfl) (hH51.sub (.cons_cons _ (.cons _ (List.Sublist.refl _)))) (fun w hS => run_fieldAddr Try.underlying24 rfl (off := 0) rfl Try.sizeOf3 (by decide) e10_47) ?_
            refine AN.take 1 rfl rfl (by kernel_rfl) (by kernel_rfl) (by kernel_rfl) (hH51.sub (.cons_cons _ (.cons _ (List.Sublist.refl _)))) (fun w hS => run_ld Try.underlying3 rfl rfl (hS.cell (i := 0) rfl (v := I _) rfl)) ?_
            refine AN.take 2 rfl rfl (by kernel_rfl) (by kernel_rfl) (by kernel_rfl) (hH51.sub (.cons_cons _ (.cons _ (List.Sublist.refl _)))) (fun w hS => run_fieldAddr Try.underlying31 rfl (off := 1) rfl Try.sizeOf29 (by decide) e8_47) ?_
            refine AN.take 3 rfl rfl (by kernel_rfl) (by kernel_rfl) (by kernel_rfl) (hH51.sub (.cons_cons _ (.cons _ (List.Sublist.refl _)))) (fun w hS => run_indexAddrA Try.underlying29 Try.sizeOf28 rfl rfl (by have hin : inPr (a0 % 61) (l.getD k.toNat (0, 0)).1 (l.getD k.toNat (0, 0)).2 := ‹_›; unfold inPr at hin; omega)) ?_
            refine AN.take 5 rfl rfl (by kernel_rfl) (by kernel_rfl) (by kernel_rfl) (hH51.sub (.cons_cons _ (.cons _ (List.Sublist.refl _)))) (fun w hS => run_fieldAddr Try.underlying24 rfl (off := 1) rfl Try.sizeOf3 (by decide) e10_47) ?_
            refine AN.take 6 rfl rfl (by kernel_rfl) (by kernel_rfl) (by kernel_rfl) (hH51.sub (.cons_cons _ (.cons _ (List.Sublist.refl _)))) (fun w hS => run_ld Try.underlying3 rfl rfl (hS.cell (i := 0) rfl (v := I _) rfl)) ?_
            refine AN.take 7 rfl rfl (by kernel_rfl) (by kernel_rfl) (by kernel_rfl) (hH51.sub (.cons_cons _ (.cons _ (List.Sublist.refl _)))) (fun w hS => run_convIU Try.underlying3 Try.underlying33 rfl) ?_
            refine AN.take 8 rfl rfl (by kernel_rfl) (by kernel_rfl) (by kernel_rfl) (hH51.sub (.cons_cons _ (.cons _ (List.Sublist.refl _)))) (fun w hS => run_shlU (a := 1#64) rfl rfl) ?_
            refine AN.take 10 rfl rfl (by kernel_rfl) (by kernel_rfl) (by kernel_rfl) (hH51.sub (.cons_cons _ (.cons _ (List.Sublist.refl _)))) (fun w hS => run_fieldAddr Try.underlying31 rfl (off := 1) rfl Try.sizeOf29 (by decide) e8_47) ?_
            refine AN.one 4 (by kernel_rfl) ?_
            refine AO.read rfl gnone rfl hH51 (.cons_cons _ (.cons _ (List.Sublist.refl _))) (run_ld Try.underlying28 rfl rfl (hH51.cell (i := 1) rfl (relC_up _ (by (have hin : inPr (a0 % 61) (l.getD k.toNat (0, 0)).1 (l.getD k.toNat (0, 0)).2 := ‹_›; unfold inPr at hin; omega))))) ?_
            refine AN.take 9 rfl rfl (by kernel_rfl) (by kernel_rfl) (by kernel_rfl) (hH51.sub (.cons_cons _ (.cons _ (List.Sublist.refl _)))) (fun w hS => run_orU rfl rfl) ?_
            refine AN.take 11 rfl rfl (by kernel_rfl) (by kernel_rfl) (by kernel_rfl) (hH51.sub (.cons_cons _ (.cons _ (List.Sublist.refl _)))) (fun w hS => run_indexAddrA Try.underlying29 Try.sizeOf28 rfl rfl (by have hin : inPr (a0 % 61) (l.getD k.toNat (0, 0)).1 (l.getD k.toNat (0, 0)).2 := ‹_›; unfold inPr at hin; omega)) ?_
            refine AN.one 12 (by kernel_rfl) ?_
            refine AO.set rfl gnone hH51 (j := 1) rfl (.cons_cons _ (.cons _ (List.Sublist.refl _))) (run_st rfl rfl (v := U _) rfl rfl rfl (hH51.blk (i := 1) rfl) (by rw [relC_size]; (have hin : inPr (a0 % 61) (l.getD k.toNat (0, 0)).1 (l.getD k.toNat (0, 0)).2 := ‹_›; unfold inPr at hin; omega))) ?_
            intro w56 hH57
            simp only [List.set_cons_zero, List.set_cons_succ] at hH57
            rw [relC_put] at hH57
            refine AN.done (by kernel_rfl) ?_
            refine CW.regionS (by kernel_rfl) hH57 (.cons_cons _ (.cons _ (List.Sublist.refl _))) ?_
            intro w58 hH59
            refine AN.take 0 rfl rfl (by kernel_rfl) (by kernel_rfl) (by kernel_rfl) (hH59.sub (.cons_cons _ (.cons _ (List.Sublist.refl _)))) (fun w hS => run_fieldAddr Try.underlying24 rfl (off := 1) rfl Try.sizeOf3 (by decide) e10_47) ?_
            refine AN.take 1 rfl rfl (by kernel_rfl) (by kernel_rfl) (by kernel_rfl) (hH59.sub (.cons_cons _ (.cons _ (List.Sublist.refl _)))) (fun w hS => run_ld Try.underlying3 rfl rfl (hS.cell (i := 0) rfl (v := I _) rfl)) ?_
            refine AN.take 2 rfl rfl (by kernel_rfl) (by kernel_rfl) (by kernel_rfl) (hH59.sub (.cons_cons _ (.cons _ (List.Sublist.refl _)))) (fun w hS => run_fieldAddr Try.underlying31 rfl (off := 1) rfl Try.sizeOf29 (by decide) e8_47) ?_
            refine AN.take 3 rfl rfl (by kernel_rfl) (by kernel_rfl) (by kernel_rfl) (hH59.sub (.cons_cons _ (.cons _ (List.Sublist.refl _)))) (fun w hS => run_indexAddrA Try.underlying29 Try.sizeOf28 rfl rfl (by have hin : inPr (a0 % 61) (l.getD k.toNat (0, 0)).1 (l.getD k.toNat (0, 0)).2 := ‹_›; unfold inPr at hin; omega)) ?_
            refine AN.take 5 rfl rfl (by kernel_rfl) (by kernel_rfl) (by kernel_rfl) (hH59.sub (.cons_cons _ (.cons _ (List.Sublist.refl _)))) (fun w hS => run_fieldAddr Try.underlying24 rfl (off := 0) rfl Try.sizeOf3 (by decide) e10_47) ?_
            refine AN.take 6 rfl rfl (by kernel_rfl) (by kernel_rfl) (by kernel_rfl) (hH59.sub (.cons_cons _ (.cons _ (List.Sublist.refl _)))) (fun w hS => run_ld Try.underlying3 rfl rfl (hS.cell (i := 0) rfl (v := I _) rfl)) ?_
            refine AN.take 7 rfl rfl (by kernel_rfl) (by kernel_rfl) (by kernel_rfl) (hH59.sub (.cons_cons _ (.cons _ (List.Sublist.refl _)))) (fun w hS => run_convIU Try.underlying3 Try.underlying33 rfl) ?_
            refine AN.take 8 rfl rfl (by kernel_rfl) (by kernel_rfl) (by kernel_rfl) (hH59.sub (.cons_cons _ (.cons _ (List.Sublist.refl _)))) (fun w hS => run_shlU (a := 1#64) rfl rfl) ?_
            refine AN.take 10 rfl rfl (by kernel_rfl) (by kernel_rfl) (by kernel_rfl) (hH59.sub (.cons_cons _ (.cons _ (List.Sublist.refl _)))) (fun w hS => run_fieldAddr Try.underlying31 rfl (off := 1) rfl Try.sizeOf29 (by decide) e8_47) ?_
            refine AN.one 4 (by kernel_rfl) ?_
            refine AO.read rfl gnone rfl hH59 (.cons_cons _ (.cons _ (List.Sublist.refl _))) (run_ld Try.underlying28 rfl rfl (hH59.cell (i := 1) rfl (relC_up _ (by (have hin : inPr (a0 % 61) (l.getD k.toNat (0, 0)).1 (l.getD k.toNat (0, 0)).2 := ‹_›; unfold inPr at hin; omega))))) ?_
            refine AN.take 9 rfl rfl (by kernel_rfl) (by kernel_rfl) (by kernel_rfl) (hH59.sub (.cons_cons _ (.cons _ (List.Sublist.refl _)))) (fun w hS => run_orU rfl rfl) ?_
            refine AN.take 11 rfl rfl (by kernel_rfl) (by kernel_rfl) (by kernel_rfl) (hH59.sub (.cons_cons _ (.cons _ (List.Sublist.refl _)))) (fun w hS => run_indexAddrA Try.underlying29 Try.sizeOf28 rfl rfl (by have hin : inPr (a0 % 61) (l.getD k.toNat (0, 0)).1 (l.getD k.toNat (0, 0)).2 := ‹_›; unfold inPr at hin; omega)) ?_
            refine AN.one 12 (by kernel_rfl) ?_
            refine AO.set rfl gnone hH59 (j := 1) rfl (.cons_cons _ (.cons _ (List.Sublist.refl _))) (run_st rfl rfl (v := U _) rfl rfl rfl (hH59.blk (i := 1) rfl) (by rw [relC_size]; (have hin : inPr (a0 % 61) (l.getD k.toNat (0, 0)).1 (l.getD k.toNat (0, 0)).2 := ‹_›; unfold inPr at hin; omega))) ?_
            intro w64 hH65
            simp only [List.set_cons_zero, List.set_cons_succ] at hH65
            rw [relC_put] at hH65
            refine AN.done (by kernel_rfl) ?_
            refine CW.seq ?_
            refine CW.region ?_
            refine RL.val rfl (run_move e7_47) ?_
            refine RL.val rfl (run_fieldAddr Try.underlying24 rfl (off := 0) rfl Try.sizeOf3 (by decide) e10_47) ?_
            refine RL.val rfl (run_ld Try.underlying3 rfl rfl (hH65.cell (i := 0) rfl (v := I _) rfl)) ?_
            refine RL.val rfl (run_fieldAddr Try.underlying24 rfl (off := 1) rfl Try.sizeOf3 (by decide) e10_47) ?_
            refine RL.val rfl (run_ld Try.underlying3 rfl rfl (hH65.cell (i := 0) rfl (v := I _) rfl)) ?_
            refine RL.callT rfl (m_Union _ _ (by omega) hF2 (Hp.zfront (A := [_, _, _]) hH65)) (run_call3 Try.call10 rfl rfl rfl) ?_
            rintro _ w68 ⟨rfl, Z69, hF70, h71⟩
            have hH72 : Hp _ w68 (_ :: _ :: _ :: (Z69 ++ Zv)) := (Hp.zback (A := [_, _, _]) h71)
            refine RL.val rfl (run_move (v := B _) rfl) ?_
            refine RL.split (dj := 87) rfl (fun h74 => ?_) (fun h74 => ?_)
            · refine RL.gT rfl (bR (c := true) h74) ?_
              refine RL.val rfl (run_move e11_47) ?_
              refine RL.gT rfl (bR (c := true) h74) ?_
              refine RL.val rfl (run_not (bT h49)) ?_
              refine RL.val rfl (run_pickT (bR (c := true) h74) (v := B _) rfl) ?_
              refine RL.nil ?_
              refine CW.condF rfl ?_
              refine CW.skip ?_
              refine CW.region ?_
              refine RL.val rfl (run_add e30_47 rfl (by omega)) ?_
              refine RL.val rfl (run_move (v := I _) rfl) ?_
              refine RL.nil ?_
              refine ⟨(k + 1, (unionC ds (l.getD k.toNat (0, 0)).1 (l.getD k.toNat (0, 0)).2).1, (orB (orB r (l.getD k.toNat (0, 0)).1 (l.getD k.toNat (0, 0)).2) (l.getD k.toNat (0, 0)).2 (l.getD k.toNat (0, 0)).1), (Z69 ++ Zv)), ?_, ((((((((((((((((((((((((((((((((((((((((((fr32.u rfl).u rfl).u rfl).u rfl).t fr47 rfl)).u rfl).u rfl).u rfl).u rfl).u rfl).u rfl).u rfl).u rfl).u rfl).u rfl).u rfl).u rfl).u rfl).u rfl).u rfl).u rfl).u rfl).u rfl).u rfl).u rfl).u rfl).u rfl).u rfl).u rfl).u rfl).u rfl).u rfl).u rfl).u rfl).u rfl).u rfl).u rfl).u rfl).u rfl).u rfl).u rfl).u rfl, (Hp.conv (hH72.sub (.cons _ (List.Sublist.refl _))) (by rfl)), (congrArg I (by rfl)), ?_, ?_, ?_, ?_, ?_⟩
              · ((try dsimp only); omega)
              · omega
              · omega
              · exact ⟨_, _, rfl, hF70.more (by omega)⟩
              · exact hrn
              · exact hC.step hF2.fo (by rw [hpn]; assumption)
            · refine RL.gF rfl rfl (bR (c := false) h74) rfl ?_
              refine RL.gF rfl rfl (bR (c := false) h74) rfl ?_
              refine RL.val rfl (run_pickF (bR (c := false) h74) (v := B false) rfl) ?_
              refine RL.nil ?_
              refine CW.condF rfl ?_
              refine CW.skip ?_
              refine CW.region ?_
              refine RL.val rfl (run_add e30_47 rfl (by omega)) ?_
              refine RL.val rfl (run_move (v := I _) rfl) ?_
              refine RL.nil ?_
              refine ⟨(k + 1, (unionC ds (l.getD k.toNat (0, 0)).1 (l.getD k.toNat (0, 0)).2).1, (orB (orB r (l.getD k.toNat (0, 0)).1 (l.getD k.toNat (0, 0)).2) (l.getD k.toNat (0, 0)).2 (l.getD k.toNat (0, 0)).1), (Z69 ++ Zv)), ?_, ((((((((((((((((((((((((((((((((((((((((((fr32.u rfl).u rfl).u rfl).u rfl).t fr47 rfl)).u rfl).u rfl).u rfl).u rfl).u rfl).u rfl).u rfl).u rfl).u rfl).u rfl).u rfl).u rfl).u rfl).u rfl).u rfl).u rfl).u rfl).u rfl).u rfl).u rfl).u rfl).u rfl).u rfl).u rfl).u rfl).u rfl).u rfl).u rfl).u rfl).u rfl).u rfl).u rfl).u rfl).u rfl).u rfl).u rfl).u rfl, (Hp.conv (hH72.sub (.cons _ (List.Sublist.refl _))) (by rfl)), (congrArg I (by rfl)), ?_, ?_, ?_, ?_, ?_⟩
              · ((try dsimp only); omega)
              · omega
              · omega
              · exact ⟨_, _, rfl, hF70.more (by omega)⟩
              · exact hrn
              · exact hC.step hF2.fo (by rw [hpn]; assumption)
          · refine CW.skip ?_
            refine CW.seq ?_
            refine CW.region ?_
            refine RL.val rfl (run_move e7_47) ?_
            refine RL.val rfl (run_fieldAddr Try.underlying24 rfl (off := 0) rfl Try.sizeOf3 (by decide) e10_47) ?_
            refine RL.val rfl (run_ld Try.underlying3 rfl rfl (hH47.cell (i := 0) rfl (v := I _) rfl)) ?_
            refine RL.val rfl (run_fieldAddr Try.underlying24 rfl (off := 1) rfl Try.sizeOf3 (by decide) e10_47) ?_
            refine RL.val rfl (run_ld Try.underlying3 rfl rfl (hH47.cell (i := 0) rfl (v := I _) rfl)) ?_
            refine RL.callT rfl (m_Union _ _ (by omega) hF2 (Hp.zfront (A := [_, _, _]) hH47)) (run_call3 Try.call10 rfl rfl rfl) ?_
            rintro _ w77 ⟨rfl, Z78, hF79, h80⟩
            have hH81 : Hp _ w77 (_ :: _ :: _ :: (Z78 ++ Zv)) := (Hp.zback (A := [_, _, _]) h80)
            refine RL.val rfl (run_move (v := B _) rfl) ?_
            refine RL.split (dj := 87) rfl (fun h83 => ?_) (fun h83 => ?_)
            · refine RL.gT rfl (bR (c := true) h83) ?_
              refine RL.val rfl (run_move e11_47) ?_
              refine RL.gT rfl (bR (c := true) h83) ?_
              refine RL.val rfl (run_not (bF h49)) ?_
              refine RL.val rfl (run_pickT (bR (c := true) h83) (v := B _) rfl) ?_
              refine RL.nil ?_
              refine CW.condT rfl ?_
              refine CW.seq ?_
              refine CW.region ?_
              refine RL.val rfl (run_assign (v := B false) rfl) ?_
              refine RL.nil ?_
              refine CW.ret ?_
              refine outP1 Try.results3 (congrArg B ?_) hH81.below
              (exfalso; have hu := ‹(unionC ds (l.getD k.toNat (0, 0)).1 (l.getD k.toNat (0, 0)).2).2 = true›; rw [un_skip (by rw [hpn]; assumption)] at hu; cases hu)
            · refine RL.gF rfl rfl (bR (c := false) h83) rfl ?_
              refine RL.gF rfl rfl (bR (c := false) h83) rfl ?_
              refine RL.val rfl (run_pickF (bR (c := false) h83) (v := B false) rfl) ?_
              refine RL.nil ?_
              refine CW.condF rfl ?_
              refine CW.skip ?_
              refine CW.region ?_
              refine RL.val rfl (run_add e30_47 rfl (by omega)) ?_
              refine RL.val rfl (run_move (v := I _) rfl) ?_
              refine RL.nil ?_
              refine ⟨(k + 1, (unionC ds (l.getD k.toNat (0, 0)).1 (l.getD k.toNat (0, 0)).2).1, r, (Z78 ++ Zv)), ?_, ((((((((((((((((((fr32.u rfl).u rfl).u rfl).u rfl).t fr47 rfl)).u rfl).u rfl).u rfl).u rfl).u rfl).u rfl).u rfl).u rfl).u rfl).u rfl).u rfl).u rfl).u rfl, (Hp.conv (hH81.sub (.cons _ (List.Sublist.refl _))) (by rfl)), (congrArg I (by rfl)), ?_, ?_, ?_, ?_, ?_⟩
              · ((try dsimp only); omega)
              · omega
              · omega
              · exact ⟨_, _, rfl, hF79.more (by omega)⟩
              · exact hrn
              · exact hC.skip (by rw [hpn]; assumption)
      · refine CW.exit (id := 2) rfl ?_
        refine CW.seq ?_
        refine CW.seq ?_
        refine CW.region ?_
        refine RL.val rfl (run_fieldAddr Try.underlying24 rfl (off := 0) rfl Try.sizeOf3 (by decide) e5_32) ?_
        refine RL.val rfl (run_ld Try.underlying3 rfl rfl (hH32.cell (i := 1) rfl (v := I _) rfl)) ?_
        refine RL.val rfl (run_lss rfl rfl) ?_
        refine RL.val rfl (run_move (v := B _) rfl) ?_
        refine RL.splitP (dj := 95) rfl (fun h85 => ?_) (fun h85 => ?_)
        · refine RL.gF rfl rfl (bT h85) rfl ?_
          refine RL.gF rfl rfl (bT h85) rfl ?_
          refine RL.gF rfl rfl (bT h85) rfl ?_
          refine RL.val rfl (run_pickT (bT h85) (v := B true) rfl) ?_
          refine RL.val rfl (run_move (v := B _) rfl) ?_
          refine RL.gF rfl rfl rfl rfl ?_
          refine RL.gF rfl rfl rfl rfl ?_
          refine RL.gF rfl rfl rfl rfl ?_
          refine RL.gF rfl rfl rfl rfl ?_
          refine RL.gF rfl rfl rfl rfl ?_
          refine RL.val rfl (run_pickT rfl (v := B true) rfl) ?_
          refine RL.val rfl (run_move (v := B _) rfl) ?_
          refine RL.gF rfl rfl rfl rfl ?_
          refine RL.gF rfl rfl rfl rfl ?_
          refine RL.gF rfl rfl rfl rfl ?_
          refine RL.gF rfl rfl rfl rfl ?_
          refine RL.gF rfl rfl rfl rfl ?_
          refine RL.val rfl (run_pickT rfl (v := B true) rfl) ?_
          refine RL.nil ?_
          refine CW.condT rfl ?_
          refine CW.seq ?_
          refine CW.region ?_
          refine RL.callP rfl hH32 (c_clearancelaw21_alive   _) (run_call0 Try.call7) ?_
          intro w86 hH87
          refine RL.val rfl (run_assign (v := B _) rfl) ?_
          refine RL.nil ?_
          refine CW.ret ?_
          refine outP1 Try.results3 (congrArg B ?_) hH87.below
          rfl
        · refine RL.gT rfl (bF h85) ?_
          refine RL.val rfl (run_fieldAddr Try.underlying24 rfl (off := 1) rfl Try.sizeOf3 (by decide) e5_32) ?_
          refine RL.gT rfl (bF h85) ?_
          refine RL.val rfl (run_ld Try.underlying3 rfl rfl (hH32.cell (i := 1) rfl (v := I _) rfl)) ?_
          refine RL.gT rfl (bF h85) ?_
          refine RL.val rfl (run_lss rfl rfl) ?_
          refine RL.val rfl (run_pickF (bF h85) (v := B _) rfl) ?_
          refine RL.val rfl (run_move (v := B _) rfl) ?_
          refine RL.splitP (dj := 100) rfl (fun h90 => ?_) (fun h90 => ?_)
          · refine RL.gF rfl rfl (bT h90) rfl ?_
            refine RL.gF rfl rfl (bT h90) rfl ?_
            refine RL.gF rfl rfl (bT h90) rfl ?_
            refine RL.gF rfl rfl (bT h90) rfl ?_
            refine RL.gF rfl rfl (bT h90) rfl ?_
            refine RL.val rfl (run_pickT (bT h90) (v := B true) rfl) ?_
            refine RL.val rfl (run_move (v := B _) rfl) ?_
            refine RL.gF rfl rfl rfl rfl ?_
            refine RL.gF rfl rfl rfl rfl ?_
            refine RL.gF rfl rfl rfl rfl ?_
            refine RL.gF rfl rfl rfl rfl ?_
            refine RL.gF rfl rfl rfl rfl ?_
            refine RL.val rfl (run_pickT rfl (v := B true) rfl) ?_
            refine RL.nil ?_
            refine CW.condT rfl ?_
            refine CW.seq ?_
            refine CW.region ?_
            refine RL.callP rfl hH32 (c_clearancelaw21_alive   _) (run_call0 Try.call7) ?_
            intro w91 hH92
            refine RL.val rfl (run_assign (v := B _) rfl) ?_
            refine RL.nil ?_
            refine CW.ret ?_
            refine outP1 Try.results3 (congrArg B ?_) hH92.below
            rfl
          · refine RL.gT rfl (bF h90) ?_
            refine RL.val rfl (run_fieldAddr Try.underlying24 rfl (off := 0) rfl Try.sizeOf3 (by decide) e5_32) ?_
            refine RL.gT rfl (bF h90) ?_
            refine RL.val rfl (run_ld Try.underlying3 rfl rfl (hH32.cell (i := 1) rfl (v := I _) rfl)) ?_
            refine RL.gT rfl (bF h90) ?_
            refine RL.val rfl (run_fieldAddr Try.underlying31 rfl (off := 0) rfl Try.sizeOf3 (by decide) e8_32) ?_
            refine RL.gT rfl (bF h90) ?_
            refine RL.val rfl (run_ld Try.underlying3 rfl rfl (hH32.cell (i := 0) rfl (relC_N _))) ?_
            refine RL.gT rfl (bF h90) ?_
            refine RL.val rfl (run_geq rfl rfl) ?_
            refine RL.val rfl (run_pickF (bF h90) (v := B _) rfl) ?_
            refine RL.val rfl (run_move (v := B _) rfl) ?_
            refine RL.splitP (dj := 107) rfl (fun h95 => ?_) (fun h95 => ?_)
            · refine RL.gF rfl rfl (bT h95) rfl ?_
              refine RL.gF rfl rfl (bT h95) rfl ?_
              refine RL.gF rfl rfl (bT h95) rfl ?_
              refine RL.gF rfl rfl (bT h95) rfl ?_
              refine RL.gF rfl rfl (bT h95) rfl ?_
              refine RL.val rfl (run_pickT (bT h95) (v := B true) rfl) ?_
              refine RL.nil ?_
              refine CW.condT rfl ?_
              refine CW.seq ?_
              refine CW.region ?_
              refine RL.callP rfl hH32 (c_clearancelaw21_alive   _) (run_call0 Try.call7) ?_
              intro w96 hH97
              refine RL.val rfl (run_assign (v := B _) rfl) ?_
              refine RL.nil ?_
              refine CW.ret ?_
              refine outP1 Try.results3 (congrArg B ?_) hH97.below
              rfl
            · refine RL.gT rfl (bF h95) ?_
              refine RL.val rfl (run_fieldAddr Try.underlying24 rfl (off := 1) rfl Try.sizeOf3 (by decide) e5_32) ?_
              refine RL.gT rfl (bF h95) ?_
              refine RL.val rfl (run_ld Try.underlying3 rfl rfl (hH32.cell (i := 1) rfl (v := I _) rfl)) ?_
              refine RL.gT rfl (bF h95) ?_
              refine RL.val rfl (run_fieldAddr Try.underlying31 rfl (off := 0) rfl Try.sizeOf3 (by decide) e8_32) ?_
              refine RL.gT rfl (bF h95) ?_
              refine RL.val rfl (run_ld Try.underlying3 rfl rfl (hH32.cell (i := 0) rfl (relC_N _))) ?_
              refine RL.gT rfl (bF h95) ?_
              refine RL.val rfl (run_geq rfl rfl) ?_
              refine RL.val rfl (run_pickF (bF h95) (v := B _) rfl) ?_
              refine RL.nil ?_
              refine CW.condP rfl (fun h100 => ?_) (fun h100 => ?_)
              · refine CW.seq ?_
                refine CW.region ?_
                refine RL.callP rfl hH32 (c_clearancelaw21_alive   _) (run_call0 Try.call7) ?_
                intro w101 hH102
                refine RL.val rfl (run_assign (v := B _) rfl) ?_
                refine RL.nil ?_
                refine CW.ret ?_
                refine outP1 Try.results3 (congrArg B ?_) hH102.below
                rfl
              · refine CW.skip ?_
                refine CW.seq ?_
                refine CW.regionD (by kernel_rfl) hH32 ?_
                intro w104 hH105
                refine AN.take 0 rfl rfl (by kernel_rfl) (by kernel_rfl) (by kernel_rfl) (hH105.sub (List.Sublist.refl _)) (fun w hS => run_move e7_32) ?_
                refine AN.take 1 rfl rfl (by kernel_rfl) (by kernel_rfl) (by kernel_rfl) (hH105.sub (List.Sublist.refl _)) (fun w hS => run_fieldAddr Try.underlying24 rfl (off := 0) rfl Try.sizeOf3 (by decide) e5_32) ?_
                refine AN.take 2 rfl rfl (by kernel_rfl) (by kernel_rfl) (by kernel_rfl) (hH105.sub (List.Sublist.refl _)) (fun w hS => run_ld Try.underlying3 rfl rfl (hS.cell (i := 1) rfl (v := I _) rfl)) ?_
                refine AN.take 4 rfl rfl (by kernel_rfl) (by kernel_rfl) (by kernel_rfl) (hH105.sub (List.Sublist.refl _)) (fun w hS => run_move e7_32) ?_
                refine AN.take 5 rfl rfl (by kernel_rfl) (by kernel_rfl) (by kernel_rfl) (hH105.sub (List.Sublist.refl _)) (fun w hS => run_fieldAddr Try.underlying24 rfl (off := 1) rfl Try.sizeOf3 (by decide) e5_32) ?_
                refine AN.take 6 rfl rfl (by kernel_rfl) (by kernel_rfl) (by kernel_rfl) (hH105.sub (List.Sublist.refl _)) (fun w hS => run_ld Try.underlying3 rfl rfl (hS.cell (i := 1) rfl (v := I _) rfl)) ?_
                refine AN.take 9 rfl rfl (by kernel_rfl) (by kernel_rfl) (by kernel_rfl) (hH105.sub (List.Sublist.refl _)) (fun w hS => run_ldRel Try.underlying31 rfl rfl e8_32 (hS.blk (i := 0) rfl)) ?_
                refine AN.take 10 rfl rfl (by kernel_rfl) (by kernel_rfl) (by kernel_rfl) (hH105.sub (List.Sublist.refl _)) (fun w hS => run_fieldAddr Try.underlying24 rfl (off := 0) rfl Try.sizeOf3 (by decide) e5_32) ?_
                refine AN.take 11 rfl rfl (by kernel_rfl) (by kernel_rfl) (by kernel_rfl) (hH105.sub (List.Sublist.refl _)) (fun w hS => run_ld Try.underlying3 rfl rfl (hS.cell (i := 1) rfl (v := I _) rfl)) ?_
                refine AN.take 13 rfl rfl (by kernel_rfl) (by kernel_rfl) (by kernel_rfl) (hH105.sub (List.Sublist.refl _)) (fun w hS => run_fieldAddr Try.underlying24 rfl (off := 1) rfl Try.sizeOf3 (by decide) e5_32) ?_
                refine AN.take 14 rfl rfl (by kernel_rfl) (by kernel_rfl) (by kernel_rfl) (hH105.sub (List.Sublist.refl _)) (fun w hS => run_ld Try.underlying3 rfl rfl (hS.cell (i := 1) rfl (v := I _) rfl)) ?_
                refine AN.one 3 (by kernel_rfl) ?_
                refine AO.callP rfl gnone rfl hH105 (List.Sublist.refl _) (m_Find _ (by omega) hF2 hH105 (fun x hx => (List.mem_cons_of_mem _ (List.mem_cons_of_mem _ (List.mem_append_left _ hx))))) (run_call2 Try.call11 rfl rfl) ?_
                intro w106 hH107
                refine AN.one 7 (by kernel_rfl) ?_
                refine AO.callP rfl gnone rfl hH107 (List.Sublist.refl _) (m_Find _ (by omega) hF2 hH107 (fun x hx => (List.mem_cons_of_mem _ (List.mem_cons_of_mem _ (List.mem_append_left _ hx))))) (run_call2 Try.call11 rfl rfl) ?_
                intro w108 hH109
                refine AN.take 8 rfl rfl (by kernel_rfl) (by kernel_rfl) (by kernel_rfl) (hH109.sub (List.Sublist.refl _)) (fun w hS => run_eql rfl rfl) ?_
                refine AN.one 12 (by kernel_rfl) ?_
                refine AO.callR rfl gnone rfl hH109 (List.Sublist.refl _) (c_clearanceref03_Reach _ _  _) (run_call2 Try.call13 rfl rfl) ?_
                intro v113 w111 hH112
                refine AN.one 15 (by kernel_rfl) ?_
                refine AO.callP rfl gnone rfl hH112 (.cons _ (List.Sublist.refl _)) (c_clearanceref03_In _ _ _  _ (hH112.sl (i := 0) rfl)) (run_call2 Try.call12 rfl rfl) ?_
                intro w114 hH115
                refine AN.take 16 rfl rfl (by kernel_rfl) (by kernel_rfl) (by kernel_rfl) (hH115.sub (.cons _ (List.Sublist.refl _))) (fun w hS => run_eqlB Try.underlying4 rfl rfl) ?_
                refine AN.take 17 rfl rfl (by kernel_rfl) (by kernel_rfl) (by kernel_rfl) (hH115.sub (.cons _ (List.Sublist.refl _))) (fun w hS => run_move (v := B _) rfl) ?_
                refine AN.one 18 (by kernel_rfl) ?_
                refine AO.callP rfl (gsome rfl (bR (c := true) ((reach_eq hC (by omega) (by omega))))) rfl hH115 (.cons _ (List.Sublist.refl _)) (c_clearancelaw21_alive   _) (run_call0 Try.call7) ?_
                intro w118 hH119
                refine AN.take 19 rfl rfl (by kernel_rfl) (by kernel_rfl) (by kernel_rfl) (hH119.sub (.cons _ (List.Sublist.refl _))) (fun w hS => run_pickT (bR (c := true) ((reach_eq hC (by omega) (by omega)))) (v := B _) rfl) ?_
                refine AN.take 20 rfl rfl (by kernel_rfl) (by kernel_rfl) (by kernel_rfl) (hH119.sub (.cons _ (List.Sublist.refl _))) (fun w hS => run_assign (v := B _) rfl) ?_
                refine AN.done (by kernel_rfl) ?_
                refine CW.ret ?_
                refine outP1 Try.results3 (congrArg B ?_) hH119.below
                rfl
end Go.Proofs.Ytphknfjaellkjaa.W
