/-
  The walks of the functions that the laws of this seat reach, part 3: each returns what its plain counterpart tells, and turns nothing that was there.
-/
import Derived.Test.YtgmdjomdmfcpnaaDoorProg
import Derived.Test.YtgmdjomdmfcpnaaDoorEnv
import Derived.Test.YtgmdjomdmfcpnaaDoorPlain
import Derived.Test.YtgmdjomdmfcpnaaDoorBase
import Derived.Test.YtgmdjomdmfcpnaaDoorOrd
import Derived.Test.YtgmdjomdmfcpnaaDoorRel
import Derived.Test.YtgmdjomdmfcpnaaDoorClo
import Derived.Test.YtgmdjomdmfcpnaaDoorCov
import Derived.Test.YtgmdjomdmfcpnaaDoorArr
import Derived.Test.YtgmdjomdmfcpnaaDoorHas
import Derived.Test.YtgmdjomdmfcpnaaDoorGrd
import Derived.Test.YtgmdjomdmfcpnaaDoorStr
import Derived.Test.YtgmdjomdmfcpnaaDoorVu
import Derived.Test.YtgmdjomdmfcpnaaDoorShp
import Derived.Test.YtgmdjomdmfcpnaaDoorShl
import Derived.Test.YtgmdjomdmfcpnaaDoorShq
import Derived.Test.YtgmdjomdmfcpnaaDoorShr
import Derived.Test.YtgmdjomdmfcpnaaDoorCut
import Derived.Test.YtgmdjomdmfcpnaaDoorPacesB
namespace Go.Proofs.YtgmdjomdmfcpnaaDoor.W
open Go Go.RowKit Go.Proofs.YtgmdjomdmfcpnaaDoor.E Go.Proofs.YtgmdjomdmfcpnaaDoor.M
set_option linter.unusedVariables false
set_option linter.unusedSimpArgs false
set_option maxRecDepth 100000

set_option maxHeartbeats 4000000 in
theorem c_clearancelaw07_ShapeLattice (s : Shp) (a b c : El) (w : World) (hs : ShpV (Kw w) s) (hT : Tab w) : Calls Tryd.prog 5 #[.agg (shpC s), .agg ([a, b, c].flatMap elL).toArray] w (Pure (B true) w) := by
  refine enter Tryd.func5 rfl Tryd.ntmps5 rfl ?_
  have hH := Hp.start w
  refine CW.seq ?_
  refine CW.region ?_
  refine RL.new rfl hH (f := fun b => (.pointer (some ⟨b, 0, none⟩))) (run_box (v := .agg _) rfl) ?_
  intro b3 w1 hH2
  refine RL.new rfl hH2 (f := fun b => (.pointer (some ⟨b, 0, none⟩))) (run_box (v := .agg _) rfl) ?_
  intro b6 w4 hH5
  refine RL.val rfl (run_assign (v := B false) rfl) ?_
  refine RL.nil ?_
  refine CW.cutF [5, 6, 7, 10, 11, 12, 13, 14, 15] (fun s' w' => ∃ q5 q6 q7 : Nat, (Hp w w' [.blk q5 (.cells (elC a) 40 (0, 0)), .blk q6 (.cells (elC b) 40 (0, 0)), .blk q7 (.cells (elC c) 40 (0, 0)), .blk b3 (.cells (shpC s) 24 (0, 0))]) ∧ (s' 5 = .pointer (some ⟨q5, 0, none⟩)) ∧ (s' 6 = .pointer (some ⟨q6, 0, none⟩)) ∧ (s' 7 = .pointer (some ⟨q7, 0, none⟩))) ?_ ?_
  · refine CW.regionD (by kernel_rfl) hH5 ?_
    intro w7 hH8
    refine AN.take 0 rfl rfl (by kernel_rfl) (by kernel_rfl) (by kernel_rfl) (hH8.sub (List.Sublist.refl _)) (fun w hS => run_indexAddrA Tryd.underlying46 Tryd.sizeOf40 rfl rfl (by omega)) ?_
    refine AN.take 1 rfl rfl (by kernel_rfl) (by kernel_rfl) (by kernel_rfl) (hH8.sub (List.Sublist.refl _)) (fun w hS => run_ldElB Tryd.underlying40 rfl rfl rfl (hS.blk (i := 0) rfl) (by first | decide | simp)) ?_
    refine AN.take 2 rfl rfl (by kernel_rfl) (by kernel_rfl) (by kernel_rfl) (hH8.sub (List.Sublist.refl _)) (fun w hS => run_indexAddrA Tryd.underlying46 Tryd.sizeOf40 rfl rfl (by omega)) ?_
    refine AN.take 3 rfl rfl (by kernel_rfl) (by kernel_rfl) (by kernel_rfl) (hH8.sub (List.Sublist.refl _)) (fun w hS => run_ldElB Tryd.underlying40 rfl rfl rfl (hS.blk (i := 0) rfl) (by first | decide | simp)) ?_
    refine AN.take 4 rfl rfl (by kernel_rfl) (by kernel_rfl) (by kernel_rfl) (hH8.sub (List.Sublist.refl _)) (fun w hS => run_indexAddrA Tryd.underlying46 Tryd.sizeOf40 rfl rfl (by omega)) ?_
    refine AN.take 5 rfl rfl (by kernel_rfl) (by kernel_rfl) (by kernel_rfl) (hH8.sub (List.Sublist.refl _)) (fun w hS => run_ldElB Tryd.underlying40 rfl rfl rfl (hS.blk (i := 0) rfl) (by first | decide | simp)) ?_
    refine AN.three 6 7 8 (by kernel_rfl) ?_ ?_ ?_
    · refine AO.new rfl gnone rfl hH8 (List.Sublist.refl _) (f := fun b => .pointer (some ⟨b, 0, none⟩)) (run_alloc zero_el) ?_
      intro b11 w9 hH10
      refine AN.two 7 8 (by kernel_rfl) ?_ ?_
      · refine AO.new rfl gnone rfl hH10 (.cons _ (List.Sublist.refl _)) (f := fun b => .pointer (some ⟨b, 0, none⟩)) (run_alloc zero_el) ?_
        intro b14 w12 hH13
        refine AN.one 8 (by kernel_rfl) ?_
        refine AO.new rfl gnone rfl hH13 (.cons _ (.cons _ (List.Sublist.refl _))) (f := fun b => .pointer (some ⟨b, 0, none⟩)) (run_alloc zero_el) ?_
        intro b17 w15 hH16
        refine AN.one 9 (by kernel_rfl) ?_
        refine AO.set rfl gnone hH16 (j := 2) rfl (.cons _ (.cons _ (.cons _ (List.Sublist.refl _)))) (run_stEl rfl rfl rfl (hH16.blk (i := 2) rfl)) ?_
        intro w20 hH21
        simp only [List.set_cons_zero, List.set_cons_succ] at hH21
        refine AN.one 10 (by kernel_rfl) ?_
        refine AO.set rfl gnone hH21 (j := 1) rfl (.cons _ (.cons _ (.cons _ (List.Sublist.refl _)))) (run_stEl rfl rfl rfl (hH21.blk (i := 1) rfl)) ?_
        intro w24 hH25
        simp only [List.set_cons_zero, List.set_cons_succ] at hH25
        refine AN.one 11 (by kernel_rfl) ?_
        refine AO.set rfl gnone hH25 (j := 0) rfl (.cons _ (.cons _ (.cons _ (List.Sublist.refl _)))) (run_stEl rfl rfl rfl (hH25.blk (i := 0) rfl)) ?_
        intro w28 hH29
        simp only [List.set_cons_zero, List.set_cons_succ] at hH29
        refine AN.done (by kernel_rfl) ?_
        refine ⟨((((((((((Fr.refl _ _)).u rfl).u rfl).u rfl).u rfl).u rfl).u rfl).u rfl).u rfl).u rfl, b11, b14, b17, ((hH29.sub (.cons_cons _ (.cons_cons _ (.cons_cons _ (.cons _ (List.Sublist.refl _)))))).perm (((List.Perm.cons _ ((List.Perm.cons _ (List.Perm.refl _)).trans (List.Perm.swap _ _ _))).trans (List.Perm.swap _ _ _)).trans (List.Perm.cons _ (((List.Perm.cons _ (List.Perm.refl _)).trans (List.Perm.swap _ _ _)).trans (List.Perm.cons _ (List.Perm.refl _)))))), rfl, rfl, rfl⟩
      · refine AO.new rfl gnone rfl hH10 (.cons _ (List.Sublist.refl _)) (f := fun b => .pointer (some ⟨b, 0, none⟩)) (run_alloc zero_el) ?_
        intro b32 w30 hH31
        refine AN.one 7 (by kernel_rfl) ?_
        refine AO.new rfl gnone rfl hH31 (.cons _ (.cons _ (List.Sublist.refl _))) (f := fun b => .pointer (some ⟨b, 0, none⟩)) (run_alloc zero_el) ?_
        intro b35 w33 hH34
        refine AN.one 9 (by kernel_rfl) ?_
        refine AO.set rfl gnone hH34 (j := 2) rfl (.cons _ (.cons _ (.cons _ (List.Sublist.refl _)))) (run_stEl rfl rfl rfl (hH34.blk (i := 2) rfl)) ?_
        intro w38 hH39
        simp only [List.set_cons_zero, List.set_cons_succ] at hH39
        refine AN.one 10 (by kernel_rfl) ?_
        refine AO.set rfl gnone hH39 (j := 0) rfl (.cons _ (.cons _ (.cons _ (List.Sublist.refl _)))) (run_stEl rfl rfl rfl (hH39.blk (i := 0) rfl)) ?_
        intro w42 hH43
        simp only [List.set_cons_zero, List.set_cons_succ] at hH43
        refine AN.one 11 (by kernel_rfl) ?_
        refine AO.set rfl gnone hH43 (j := 1) rfl (.cons _ (.cons _ (.cons _ (List.Sublist.refl _)))) (run_stEl rfl rfl rfl (hH43.blk (i := 1) rfl)) ?_
        intro w46 hH47
        simp only [List.set_cons_zero, List.set_cons_succ] at hH47
        refine AN.done (by kernel_rfl) ?_
        refine ⟨((((((((((Fr.refl _ _)).u rfl).u rfl).u rfl).u rfl).u rfl).u rfl).u rfl).u rfl).u rfl, b11, b35, b32, ((hH47.sub (.cons_cons _ (.cons_cons _ (.cons_cons _ (.cons _ (List.Sublist.refl _)))))).perm (((List.Perm.cons _ ((List.Perm.cons _ (List.Perm.refl _)).trans (List.Perm.swap _ _ _))).trans (List.Perm.swap _ _ _)).trans (List.Perm.cons _ (List.Perm.refl _)))), rfl, rfl, rfl⟩
    · refine AO.new rfl gnone rfl hH8 (List.Sublist.refl _) (f := fun b => .pointer (some ⟨b, 0, none⟩)) (run_alloc zero_el) ?_
      intro b50 w48 hH49
      refine AN.two 6 8 (by kernel_rfl) ?_ ?_
      · refine AO.new rfl gnone rfl hH49 (.cons _ (List.Sublist.refl _)) (f := fun b => .pointer (some ⟨b, 0, none⟩)) (run_alloc zero_el) ?_
        intro b53 w51 hH52
        refine AN.one 8 (by kernel_rfl) ?_
        refine AO.new rfl gnone rfl hH52 (.cons _ (.cons _ (List.Sublist.refl _))) (f := fun b => .pointer (some ⟨b, 0, none⟩)) (run_alloc zero_el) ?_
        intro b56 w54 hH55
        refine AN.one 9 (by kernel_rfl) ?_
        refine AO.set rfl gnone hH55 (j := 1) rfl (.cons _ (.cons _ (.cons _ (List.Sublist.refl _)))) (run_stEl rfl rfl rfl (hH55.blk (i := 1) rfl)) ?_
        intro w59 hH60
        simp only [List.set_cons_zero, List.set_cons_succ] at hH60
        refine AN.one 10 (by kernel_rfl) ?_
        refine AO.set rfl gnone hH60 (j := 2) rfl (.cons _ (.cons _ (.cons _ (List.Sublist.refl _)))) (run_stEl rfl rfl rfl (hH60.blk (i := 2) rfl)) ?_
        intro w63 hH64
        simp only [List.set_cons_zero, List.set_cons_succ] at hH64
        refine AN.one 11 (by kernel_rfl) ?_
        refine AO.set rfl gnone hH64 (j := 0) rfl (.cons _ (.cons _ (.cons _ (List.Sublist.refl _)))) (run_stEl rfl rfl rfl (hH64.blk (i := 0) rfl)) ?_
        intro w67 hH68
        simp only [List.set_cons_zero, List.set_cons_succ] at hH68
        refine AN.done (by kernel_rfl) ?_
        refine ⟨((((((((((Fr.refl _ _)).u rfl).u rfl).u rfl).u rfl).u rfl).u rfl).u rfl).u rfl).u rfl, b53, b50, b56, ((hH68.sub (.cons_cons _ (.cons_cons _ (.cons_cons _ (.cons _ (List.Sublist.refl _)))))).perm (((List.Perm.cons _ (List.Perm.refl _)).trans (List.Perm.swap _ _ _)).trans (List.Perm.cons _ (((List.Perm.cons _ (List.Perm.refl _)).trans (List.Perm.swap _ _ _)).trans (List.Perm.cons _ (List.Perm.refl _)))))), rfl, rfl, rfl⟩
      · refine AO.new rfl gnone rfl hH49 (.cons _ (List.Sublist.refl _)) (f := fun b => .pointer (some ⟨b, 0, none⟩)) (run_alloc zero_el) ?_
        intro b71 w69 hH70
        refine AN.one 6 (by kernel_rfl) ?_
        refine AO.new rfl gnone rfl hH70 (.cons _ (.cons _ (List.Sublist.refl _))) (f := fun b => .pointer (some ⟨b, 0, none⟩)) (run_alloc zero_el) ?_
        intro b74 w72 hH73
        refine AN.one 9 (by kernel_rfl) ?_
        refine AO.set rfl gnone hH73 (j := 0) rfl (.cons _ (.cons _ (.cons _ (List.Sublist.refl _)))) (run_stEl rfl rfl rfl (hH73.blk (i := 0) rfl)) ?_
        intro w77 hH78
        simp only [List.set_cons_zero, List.set_cons_succ] at hH78
        refine AN.one 10 (by kernel_rfl) ?_
        refine AO.set rfl gnone hH78 (j := 2) rfl (.cons _ (.cons _ (.cons _ (List.Sublist.refl _)))) (run_stEl rfl rfl rfl (hH78.blk (i := 2) rfl)) ?_
        intro w81 hH82
        simp only [List.set_cons_zero, List.set_cons_succ] at hH82
        refine AN.one 11 (by kernel_rfl) ?_
        refine AO.set rfl gnone hH82 (j := 1) rfl (.cons _ (.cons _ (.cons _ (List.Sublist.refl _)))) (run_stEl rfl rfl rfl (hH82.blk (i := 1) rfl)) ?_
        intro w85 hH86
        simp only [List.set_cons_zero, List.set_cons_succ] at hH86
        refine AN.done (by kernel_rfl) ?_
        refine ⟨((((((((((Fr.refl _ _)).u rfl).u rfl).u rfl).u rfl).u rfl).u rfl).u rfl).u rfl).u rfl, b74, b50, b71, ((hH86.sub (.cons_cons _ (.cons_cons _ (.cons_cons _ (.cons _ (List.Sublist.refl _)))))).perm (List.Perm.cons _ (((List.Perm.cons _ (List.Perm.refl _)).trans (List.Perm.swap _ _ _)).trans (List.Perm.cons _ (List.Perm.refl _))))), rfl, rfl, rfl⟩
    · refine AO.new rfl gnone rfl hH8 (List.Sublist.refl _) (f := fun b => .pointer (some ⟨b, 0, none⟩)) (run_alloc zero_el) ?_
      intro b89 w87 hH88
      refine AN.two 6 7 (by kernel_rfl) ?_ ?_
      · refine AO.new rfl gnone rfl hH88 (.cons _ (List.Sublist.refl _)) (f := fun b => .pointer (some ⟨b, 0, none⟩)) (run_alloc zero_el) ?_
        intro b92 w90 hH91
        refine AN.one 7 (by kernel_rfl) ?_
        refine AO.new rfl gnone rfl hH91 (.cons _ (.cons _ (List.Sublist.refl _))) (f := fun b => .pointer (some ⟨b, 0, none⟩)) (run_alloc zero_el) ?_
        intro b95 w93 hH94
        refine AN.one 9 (by kernel_rfl) ?_
        refine AO.set rfl gnone hH94 (j := 1) rfl (.cons _ (.cons _ (.cons _ (List.Sublist.refl _)))) (run_stEl rfl rfl rfl (hH94.blk (i := 1) rfl)) ?_
        intro w98 hH99
        simp only [List.set_cons_zero, List.set_cons_succ] at hH99
        refine AN.one 10 (by kernel_rfl) ?_
        refine AO.set rfl gnone hH99 (j := 0) rfl (.cons _ (.cons _ (.cons _ (List.Sublist.refl _)))) (run_stEl rfl rfl rfl (hH99.blk (i := 0) rfl)) ?_
        intro w102 hH103
        simp only [List.set_cons_zero, List.set_cons_succ] at hH103
        refine AN.one 11 (by kernel_rfl) ?_
        refine AO.set rfl gnone hH103 (j := 2) rfl (.cons _ (.cons _ (.cons _ (List.Sublist.refl _)))) (run_stEl rfl rfl rfl (hH103.blk (i := 2) rfl)) ?_
        intro w106 hH107
        simp only [List.set_cons_zero, List.set_cons_succ] at hH107
        refine AN.done (by kernel_rfl) ?_
        refine ⟨((((((((((Fr.refl _ _)).u rfl).u rfl).u rfl).u rfl).u rfl).u rfl).u rfl).u rfl).u rfl, b92, b95, b89, ((hH107.sub (.cons_cons _ (.cons_cons _ (.cons_cons _ (.cons _ (List.Sublist.refl _)))))).perm (((List.Perm.cons _ (List.Perm.refl _)).trans (List.Perm.swap _ _ _)).trans (List.Perm.cons _ (List.Perm.refl _)))), rfl, rfl, rfl⟩
      · refine AO.new rfl gnone rfl hH88 (.cons _ (List.Sublist.refl _)) (f := fun b => .pointer (some ⟨b, 0, none⟩)) (run_alloc zero_el) ?_
        intro b110 w108 hH109
        refine AN.one 6 (by kernel_rfl) ?_
        refine AO.new rfl gnone rfl hH109 (.cons _ (.cons _ (List.Sublist.refl _))) (f := fun b => .pointer (some ⟨b, 0, none⟩)) (run_alloc zero_el) ?_
        intro b113 w111 hH112
        refine AN.one 9 (by kernel_rfl) ?_
        refine AO.set rfl gnone hH112 (j := 0) rfl (.cons _ (.cons _ (.cons _ (List.Sublist.refl _)))) (run_stEl rfl rfl rfl (hH112.blk (i := 0) rfl)) ?_
        intro w116 hH117
        simp only [List.set_cons_zero, List.set_cons_succ] at hH117
        refine AN.one 10 (by kernel_rfl) ?_
        refine AO.set rfl gnone hH117 (j := 1) rfl (.cons _ (.cons _ (.cons _ (List.Sublist.refl _)))) (run_stEl rfl rfl rfl (hH117.blk (i := 1) rfl)) ?_
        intro w120 hH121
        simp only [List.set_cons_zero, List.set_cons_succ] at hH121
        refine AN.one 11 (by kernel_rfl) ?_
        refine AO.set rfl gnone hH121 (j := 2) rfl (.cons _ (.cons _ (.cons _ (List.Sublist.refl _)))) (run_stEl rfl rfl rfl (hH121.blk (i := 2) rfl)) ?_
        intro w124 hH125
        simp only [List.set_cons_zero, List.set_cons_succ] at hH125
        refine AN.done (by kernel_rfl) ?_
        refine ⟨((((((((((Fr.refl _ _)).u rfl).u rfl).u rfl).u rfl).u rfl).u rfl).u rfl).u rfl).u rfl, b113, b110, b89, ((hH125.sub (.cons_cons _ (.cons_cons _ (.cons_cons _ (.cons _ (List.Sublist.refl _)))))).perm (List.Perm.refl _)), rfl, rfl, rfl⟩
  · rintro sg126 w126 fr126 ⟨q5, q6, q7, hH126, e5_126, e6_126, e7_126⟩
    have e2_126 : sg126 2 = .pointer (some ⟨_, _, none⟩) := (fr126 2 rfl).trans rfl
    have e4_126 : sg126 4 = B _ := (fr126 4 rfl).trans rfl
    refine CW.seq ?_
    refine CW.seq ?_
    refine CW.region ?_
    refine RL.val rfl (run_ldA (cs := [B _, _]) Tryd.underlying24 rfl rfl e2_126 (rangeAt_cells (hH126.blk (i := 3) rfl))) ?_
    refine RL.callP rfl hH126 (c_clearancelaw07_Big _  _ (hs.mono hH126.kw)) (run_call1 Tryd.call6 rfl) ?_
    intro w127 hH128
    refine RL.val rfl (run_move (v := B _) rfl) ?_
    refine RL.split (dj := 18) rfl (fun h130 => ?_) (fun h130 => ?_)
    · refine RL.gF rfl rfl (bR (c := true) h130) rfl ?_
      refine RL.gF rfl rfl (bR (c := true) h130) rfl ?_
      refine RL.gF rfl rfl (bR (c := true) h130) rfl ?_
      refine RL.gF rfl rfl (bR (c := true) h130) rfl ?_
      refine RL.val rfl (run_pickT (bR (c := true) h130) (v := B true) rfl) ?_
      refine RL.val rfl (run_move (v := B _) rfl) ?_
      refine RL.gF rfl rfl rfl rfl ?_
      refine RL.gF rfl rfl rfl rfl ?_
      refine RL.gF rfl rfl rfl rfl ?_
      refine RL.gF rfl rfl rfl rfl ?_
      refine RL.val rfl (run_pickT rfl (v := B true) rfl) ?_
      refine RL.val rfl (run_move (v := B _) rfl) ?_
      refine RL.gF rfl rfl rfl rfl ?_
      refine RL.gF rfl rfl rfl rfl ?_
      refine RL.gF rfl rfl rfl rfl ?_
      refine RL.gF rfl rfl rfl rfl ?_
      refine RL.val rfl (run_pickT rfl (v := B true) rfl) ?_
      refine RL.nil ?_
      refine CW.condT rfl ?_
      refine CW.seq ?_
      refine CW.region ?_
      refine RL.callP rfl hH128 (c_clearancelaw07_alive   _ (hT.hp hH128)) (run_call0 Tryd.call7) ?_
      intro w131 hH132
      refine RL.val rfl (run_assign (v := B _) rfl) ?_
      refine RL.nil ?_
      refine CW.ret ?_
      refine outP1 Tryd.results5 (congrArg B ?_) hH132.below
      rfl
    · refine RL.gT rfl (bR (c := false) h130) ?_
      refine RL.val rfl (run_ldA (cs := [B _, _]) Tryd.underlying24 rfl rfl e2_126 (rangeAt_cells (hH128.blk (i := 3) rfl))) ?_
      refine RL.gT rfl (bR (c := false) h130) ?_
      refine RL.val rfl (run_ldEl Tryd.underlying40 rfl rfl e5_126 (hH128.blk (i := 0) rfl)) ?_
      refine RL.gT rfl (bR (c := false) h130) ?_
      refine RL.callP rfl hH128 (c_shape_Fits _ _  _ (hs.mono hH128.kw) (hT.hp hH128)) (run_call2 Tryd.call13 rfl rfl) ?_
      intro w134 hH135
      refine RL.gT rfl (bR (c := false) h130) ?_
      refine RL.val rfl (run_not rfl) ?_
      refine RL.val rfl (run_pickF (bR (c := false) h130) (v := B _) rfl) ?_
      refine RL.val rfl (run_move (v := B _) rfl) ?_
      refine RL.split (dj := 24) rfl (fun h138 => ?_) (fun h138 => ?_)
      · refine RL.gF rfl rfl (bR (c := true) h138) rfl ?_
        refine RL.gF rfl rfl (bR (c := true) h138) rfl ?_
        refine RL.gF rfl rfl (bR (c := true) h138) rfl ?_
        refine RL.gF rfl rfl (bR (c := true) h138) rfl ?_
        refine RL.val rfl (run_pickT (bR (c := true) h138) (v := B true) rfl) ?_
        refine RL.val rfl (run_move (v := B _) rfl) ?_
        refine RL.gF rfl rfl rfl rfl ?_
        refine RL.gF rfl rfl rfl rfl ?_
        refine RL.gF rfl rfl rfl rfl ?_
        refine RL.gF rfl rfl rfl rfl ?_
        refine RL.val rfl (run_pickT rfl (v := B true) rfl) ?_
        refine RL.nil ?_
        refine CW.condT rfl ?_
        refine CW.seq ?_
        refine CW.region ?_
        refine RL.callP rfl hH135 (c_clearancelaw07_alive   _ (hT.hp hH135)) (run_call0 Tryd.call7) ?_
        intro w139 hH140
        refine RL.val rfl (run_assign (v := B _) rfl) ?_
        refine RL.nil ?_
        refine CW.ret ?_
        refine outP1 Tryd.results5 (congrArg B ?_) hH140.below
        rfl
      · refine RL.gT rfl (bR (c := false) h138) ?_
        refine RL.val rfl (run_ldA (cs := [B _, _]) Tryd.underlying24 rfl rfl e2_126 (rangeAt_cells (hH135.blk (i := 3) rfl))) ?_
        refine RL.gT rfl (bR (c := false) h138) ?_
        refine RL.val rfl (run_ldEl Tryd.underlying40 rfl rfl e6_126 (hH135.blk (i := 1) rfl)) ?_
        refine RL.gT rfl (bR (c := false) h138) ?_
        refine RL.callP rfl hH135 (c_shape_Fits _ _  _ (hs.mono hH135.kw) (hT.hp hH135)) (run_call2 Tryd.call13 rfl rfl) ?_
        intro w142 hH143
        refine RL.gT rfl (bR (c := false) h138) ?_
        refine RL.val rfl (run_not rfl) ?_
        refine RL.val rfl (run_pickF (bR (c := false) h138) (v := B _) rfl) ?_
        refine RL.val rfl (run_move (v := B _) rfl) ?_
        refine RL.split (dj := 30) rfl (fun h146 => ?_) (fun h146 => ?_)
        · refine RL.gF rfl rfl (bR (c := true) h146) rfl ?_
          refine RL.gF rfl rfl (bR (c := true) h146) rfl ?_
          refine RL.gF rfl rfl (bR (c := true) h146) rfl ?_
          refine RL.gF rfl rfl (bR (c := true) h146) rfl ?_
          refine RL.val rfl (run_pickT (bR (c := true) h146) (v := B true) rfl) ?_
          refine RL.nil ?_
          refine CW.condT rfl ?_
          refine CW.seq ?_
          refine CW.region ?_
          refine RL.callP rfl hH143 (c_clearancelaw07_alive   _ (hT.hp hH143)) (run_call0 Tryd.call7) ?_
          intro w147 hH148
          refine RL.val rfl (run_assign (v := B _) rfl) ?_
          refine RL.nil ?_
          refine CW.ret ?_
          refine outP1 Tryd.results5 (congrArg B ?_) hH148.below
          rfl
        · refine RL.gT rfl (bR (c := false) h146) ?_
          refine RL.val rfl (run_ldA (cs := [B _, _]) Tryd.underlying24 rfl rfl e2_126 (rangeAt_cells (hH143.blk (i := 3) rfl))) ?_
          refine RL.gT rfl (bR (c := false) h146) ?_
          refine RL.val rfl (run_ldEl Tryd.underlying40 rfl rfl e7_126 (hH143.blk (i := 2) rfl)) ?_
          refine RL.gT rfl (bR (c := false) h146) ?_
          refine RL.callP rfl hH143 (c_shape_Fits _ _  _ (hs.mono hH143.kw) (hT.hp hH143)) (run_call2 Tryd.call13 rfl rfl) ?_
          intro w150 hH151
          refine RL.gT rfl (bR (c := false) h146) ?_
          refine RL.val rfl (run_not rfl) ?_
          refine RL.val rfl (run_pickF (bR (c := false) h146) (v := B _) rfl) ?_
          refine RL.nil ?_
          refine CW.cond rfl (fun h154 => ?_) (fun h154 => ?_)
          · refine CW.seq ?_
            refine CW.region ?_
            refine RL.callP rfl hH151 (c_clearancelaw07_alive   _ (hT.hp hH151)) (run_call0 Tryd.call7) ?_
            intro w155 hH156
            refine RL.val rfl (run_assign (v := B _) rfl) ?_
            refine RL.nil ?_
            refine CW.ret ?_
            refine outP1 Tryd.results5 (congrArg B ?_) hH156.below
            rfl
          · refine CW.skip ?_
            refine CW.cutF [8, 9, 37, 38, 39, 40, 41, 42, 43] (fun s' w' => ∃ q8 q9 : Nat, (Hp w w' [.blk q8 (.cells (elC (joinS s.sh a b)) 40 (0, 0)), .blk q9 (.cells (elC (meetE a b)) 40 (0, 0)), .blk q5 (.cells (elC a) 40 (0, 0)), .blk q6 (.cells (elC b) 40 (0, 0)), .blk q7 (.cells (elC c) 40 (0, 0)), .blk b3 (.cells (shpC s) 24 (0, 0))]) ∧ (s' 8 = .pointer (some ⟨q8, 0, none⟩)) ∧ (s' 9 = .pointer (some ⟨q9, 0, none⟩))) ?_ ?_
            · refine CW.regionD (by kernel_rfl) hH151 ?_
              intro w158 hH159
              refine AN.take 0 rfl rfl (by kernel_rfl) (by kernel_rfl) (by kernel_rfl) (hH159.sub (List.Sublist.refl _)) (fun w hS => run_ldA (cs := [B _, _]) Tryd.underlying24 rfl rfl e2_126 (rangeAt_cells (hS.blk (i := 3) rfl))) ?_
              refine AN.take 1 rfl rfl (by kernel_rfl) (by kernel_rfl) (by kernel_rfl) (hH159.sub (List.Sublist.refl _)) (fun w hS => run_ldEl Tryd.underlying40 rfl rfl e5_126 (hS.blk (i := 0) rfl)) ?_
              refine AN.take 2 rfl rfl (by kernel_rfl) (by kernel_rfl) (by kernel_rfl) (hH159.sub (List.Sublist.refl _)) (fun w hS => run_ldEl Tryd.underlying40 rfl rfl e6_126 (hS.blk (i := 1) rfl)) ?_
              refine AN.take 4 rfl rfl (by kernel_rfl) (by kernel_rfl) (by kernel_rfl) (hH159.sub (List.Sublist.refl _)) (fun w hS => run_ldEl Tryd.underlying40 rfl rfl e5_126 (hS.blk (i := 0) rfl)) ?_
              refine AN.take 5 rfl rfl (by kernel_rfl) (by kernel_rfl) (by kernel_rfl) (hH159.sub (List.Sublist.refl _)) (fun w hS => run_ldEl Tryd.underlying40 rfl rfl e6_126 (hS.blk (i := 1) rfl)) ?_
              refine AN.three 3 7 8 (by kernel_rfl) ?_ ?_ ?_
              · refine AO.callP rfl gnone rfl hH159 (List.Sublist.refl _) (c_shape_Join _ _ _  _ (hs.mono hH159.kw) (hT.hp hH159)) (run_call3 Tryd.call15 rfl rfl rfl) ?_
                intro w160 hH161
                refine AN.three 6 7 8 (by kernel_rfl) ?_ ?_ ?_
                · refine AO.callP rfl gnone rfl hH161 (List.Sublist.refl _) (c_shape_Meet _ _  _) (run_call2 Tryd.call17 rfl rfl) ?_
                  intro w162 hH163
                  refine AN.two 7 8 (by kernel_rfl) ?_ ?_
                  · refine AO.new rfl gnone rfl hH163 (List.Sublist.refl _) (f := fun b => .pointer (some ⟨b, 0, none⟩)) (run_alloc zero_el) ?_
                    intro b166 w164 hH165
                    refine AN.one 8 (by kernel_rfl) ?_
                    refine AO.new rfl gnone rfl hH165 (.cons _ (List.Sublist.refl _)) (f := fun b => .pointer (some ⟨b, 0, none⟩)) (run_alloc zero_el) ?_
                    intro b169 w167 hH168
                    refine AN.one 9 (by kernel_rfl) ?_
                    refine AO.set rfl gnone hH168 (j := 1) rfl (.cons _ (.cons _ (List.Sublist.refl _))) (run_stEl rfl rfl rfl (hH168.blk (i := 1) rfl)) ?_
                    intro w172 hH173
                    simp only [List.set_cons_zero, List.set_cons_succ] at hH173
                    refine AN.one 10 (by kernel_rfl) ?_
                    refine AO.set rfl gnone hH173 (j := 0) rfl (.cons _ (.cons _ (List.Sublist.refl _))) (run_stEl rfl rfl rfl (hH173.blk (i := 0) rfl)) ?_
                    intro w176 hH177
                    simp only [List.set_cons_zero, List.set_cons_succ] at hH177
                    refine AN.done (by kernel_rfl) ?_
                    refine ⟨((((((((((Fr.refl _ _)).u rfl).u rfl).u rfl).u rfl).u rfl).u rfl).u rfl).u rfl).u rfl, b166, b169, ((hH177.sub (List.Sublist.refl _)).perm (((List.Perm.cons _ (List.Perm.refl _)).trans (List.Perm.swap _ _ _)).trans (List.Perm.cons _ (List.Perm.refl _)))), rfl, rfl⟩
                  · refine AO.new rfl gnone rfl hH163 (List.Sublist.refl _) (f := fun b => .pointer (some ⟨b, 0, none⟩)) (run_alloc zero_el) ?_
                    intro b180 w178 hH179
                    refine AN.one 7 (by kernel_rfl) ?_
                    refine AO.new rfl gnone rfl hH179 (.cons _ (List.Sublist.refl _)) (f := fun b => .pointer (some ⟨b, 0, none⟩)) (run_alloc zero_el) ?_
                    intro b183 w181 hH182
                    refine AN.one 9 (by kernel_rfl) ?_
                    refine AO.set rfl gnone hH182 (j := 0) rfl (.cons _ (.cons _ (List.Sublist.refl _))) (run_stEl rfl rfl rfl (hH182.blk (i := 0) rfl)) ?_
                    intro w186 hH187
                    simp only [List.set_cons_zero, List.set_cons_succ] at hH187
                    refine AN.one 10 (by kernel_rfl) ?_
                    refine AO.set rfl gnone hH187 (j := 1) rfl (.cons _ (.cons _ (List.Sublist.refl _))) (run_stEl rfl rfl rfl (hH187.blk (i := 1) rfl)) ?_
                    intro w190 hH191
                    simp only [List.set_cons_zero, List.set_cons_succ] at hH191
                    refine AN.done (by kernel_rfl) ?_
                    refine ⟨((((((((((Fr.refl _ _)).u rfl).u rfl).u rfl).u rfl).u rfl).u rfl).u rfl).u rfl).u rfl, b183, b180, ((hH191.sub (List.Sublist.refl _)).perm (List.Perm.refl _)), rfl, rfl⟩
                · refine AO.new rfl gnone rfl hH161 (List.Sublist.refl _) (f := fun b => .pointer (some ⟨b, 0, none⟩)) (run_alloc zero_el) ?_
                  intro b194 w192 hH193
                  refine AN.two 6 8 (by kernel_rfl) ?_ ?_
                  · refine AO.callP rfl gnone rfl hH193 (.cons _ (List.Sublist.refl _)) (c_shape_Meet _ _  _) (run_call2 Tryd.call17 rfl rfl) ?_
                    intro w195 hH196
                    refine AN.one 8 (by kernel_rfl) ?_
                    refine AO.new rfl gnone rfl hH196 (.cons _ (List.Sublist.refl _)) (f := fun b => .pointer (some ⟨b, 0, none⟩)) (run_alloc zero_el) ?_
                    intro b199 w197 hH198
                    refine AN.one 9 (by kernel_rfl) ?_
                    refine AO.set rfl gnone hH198 (j := 1) rfl (.cons _ (.cons _ (List.Sublist.refl _))) (run_stEl rfl rfl rfl (hH198.blk (i := 1) rfl)) ?_
                    intro w202 hH203
                    simp only [List.set_cons_zero, List.set_cons_succ] at hH203
                    refine AN.one 10 (by kernel_rfl) ?_
                    refine AO.set rfl gnone hH203 (j := 0) rfl (.cons _ (.cons _ (List.Sublist.refl _))) (run_stEl rfl rfl rfl (hH203.blk (i := 0) rfl)) ?_
                    intro w206 hH207
                    simp only [List.set_cons_zero, List.set_cons_succ] at hH207
                    refine AN.done (by kernel_rfl) ?_
                    refine ⟨((((((((((Fr.refl _ _)).u rfl).u rfl).u rfl).u rfl).u rfl).u rfl).u rfl).u rfl).u rfl, b194, b199, ((hH207.sub (List.Sublist.refl _)).perm (((List.Perm.cons _ (List.Perm.refl _)).trans (List.Perm.swap _ _ _)).trans (List.Perm.cons _ (List.Perm.refl _)))), rfl, rfl⟩
                  · refine AO.new rfl gnone rfl hH193 (.cons _ (List.Sublist.refl _)) (f := fun b => .pointer (some ⟨b, 0, none⟩)) (run_alloc zero_el) ?_
                    intro b210 w208 hH209
                    refine AN.one 6 (by kernel_rfl) ?_
                    refine AO.callP rfl gnone rfl hH209 (.cons _ (.cons _ (List.Sublist.refl _))) (c_shape_Meet _ _  _) (run_call2 Tryd.call17 rfl rfl) ?_
                    intro w211 hH212
                    refine AN.one 9 (by kernel_rfl) ?_
                    refine AO.set rfl gnone hH212 (j := 1) rfl (.cons _ (.cons _ (List.Sublist.refl _))) (run_stEl rfl rfl rfl (hH212.blk (i := 1) rfl)) ?_
                    intro w215 hH216
                    simp only [List.set_cons_zero, List.set_cons_succ] at hH216
                    refine AN.one 10 (by kernel_rfl) ?_
                    refine AO.set rfl gnone hH216 (j := 0) rfl (.cons _ (.cons _ (List.Sublist.refl _))) (run_stEl rfl rfl rfl (hH216.blk (i := 0) rfl)) ?_
                    intro w219 hH220
                    simp only [List.set_cons_zero, List.set_cons_succ] at hH220
                    refine AN.done (by kernel_rfl) ?_
                    refine ⟨((((((((((Fr.refl _ _)).u rfl).u rfl).u rfl).u rfl).u rfl).u rfl).u rfl).u rfl).u rfl, b194, b210, ((hH220.sub (List.Sublist.refl _)).perm (((List.Perm.cons _ (List.Perm.refl _)).trans (List.Perm.swap _ _ _)).trans (List.Perm.cons _ (List.Perm.refl _)))), rfl, rfl⟩
                · refine AO.new rfl gnone rfl hH161 (List.Sublist.refl _) (f := fun b => .pointer (some ⟨b, 0, none⟩)) (run_alloc zero_el) ?_
                  intro b223 w221 hH222
                  refine AN.two 6 7 (by kernel_rfl) ?_ ?_
                  · refine AO.callP rfl gnone rfl hH222 (.cons _ (List.Sublist.refl _)) (c_shape_Meet _ _  _) (run_call2 Tryd.call17 rfl rfl) ?_
                    intro w224 hH225
                    refine AN.one 7 (by kernel_rfl) ?_
                    refine AO.new rfl gnone rfl hH225 (.cons _ (List.Sublist.refl _)) (f := fun b => .pointer (some ⟨b, 0, none⟩)) (run_alloc zero_el) ?_
                    intro b228 w226 hH227
                    refine AN.one 9 (by kernel_rfl) ?_
                    refine AO.set rfl gnone hH227 (j := 0) rfl (.cons _ (.cons _ (List.Sublist.refl _))) (run_stEl rfl rfl rfl (hH227.blk (i := 0) rfl)) ?_
                    intro w231 hH232
                    simp only [List.set_cons_zero, List.set_cons_succ] at hH232
                    refine AN.one 10 (by kernel_rfl) ?_
                    refine AO.set rfl gnone hH232 (j := 1) rfl (.cons _ (.cons _ (List.Sublist.refl _))) (run_stEl rfl rfl rfl (hH232.blk (i := 1) rfl)) ?_
                    intro w235 hH236
                    simp only [List.set_cons_zero, List.set_cons_succ] at hH236
                    refine AN.done (by kernel_rfl) ?_
                    refine ⟨((((((((((Fr.refl _ _)).u rfl).u rfl).u rfl).u rfl).u rfl).u rfl).u rfl).u rfl).u rfl, b228, b223, ((hH236.sub (List.Sublist.refl _)).perm (List.Perm.refl _)), rfl, rfl⟩
                  · refine AO.new rfl gnone rfl hH222 (.cons _ (List.Sublist.refl _)) (f := fun b => .pointer (some ⟨b, 0, none⟩)) (run_alloc zero_el) ?_
                    intro b239 w237 hH238
                    refine AN.one 6 (by kernel_rfl) ?_
                    refine AO.callP rfl gnone rfl hH238 (.cons _ (.cons _ (List.Sublist.refl _))) (c_shape_Meet _ _  _) (run_call2 Tryd.call17 rfl rfl) ?_
                    intro w240 hH241
                    refine AN.one 9 (by kernel_rfl) ?_
                    refine AO.set rfl gnone hH241 (j := 0) rfl (.cons _ (.cons _ (List.Sublist.refl _))) (run_stEl rfl rfl rfl (hH241.blk (i := 0) rfl)) ?_
                    intro w244 hH245
                    simp only [List.set_cons_zero, List.set_cons_succ] at hH245
                    refine AN.one 10 (by kernel_rfl) ?_
                    refine AO.set rfl gnone hH245 (j := 1) rfl (.cons _ (.cons _ (List.Sublist.refl _))) (run_stEl rfl rfl rfl (hH245.blk (i := 1) rfl)) ?_
                    intro w248 hH249
                    simp only [List.set_cons_zero, List.set_cons_succ] at hH249
                    refine AN.done (by kernel_rfl) ?_
                    refine ⟨((((((((((Fr.refl _ _)).u rfl).u rfl).u rfl).u rfl).u rfl).u rfl).u rfl).u rfl).u rfl, b239, b223, ((hH249.sub (List.Sublist.refl _)).perm (List.Perm.refl _)), rfl, rfl⟩
              · refine AO.new rfl gnone rfl hH159 (List.Sublist.refl _) (f := fun b => .pointer (some ⟨b, 0, none⟩)) (run_alloc zero_el) ?_
                intro b252 w250 hH251
                refine AN.two 3 8 (by kernel_rfl) ?_ ?_
                · refine AO.callP rfl gnone rfl hH251 (.cons _ (List.Sublist.refl _)) (c_shape_Join _ _ _  _ (hs.mono hH251.kw) (hT.hp hH251)) (run_call3 Tryd.call15 rfl rfl rfl) ?_
                  intro w253 hH254
                  refine AN.two 6 8 (by kernel_rfl) ?_ ?_
                  · refine AO.callP rfl gnone rfl hH254 (.cons _ (List.Sublist.refl _)) (c_shape_Meet _ _  _) (run_call2 Tryd.call17 rfl rfl) ?_
                    intro w255 hH256
                    refine AN.one 8 (by kernel_rfl) ?_
                    refine AO.new rfl gnone rfl hH256 (.cons _ (List.Sublist.refl _)) (f := fun b => .pointer (some ⟨b, 0, none⟩)) (run_alloc zero_el) ?_
                    intro b259 w257 hH258
                    refine AN.one 9 (by kernel_rfl) ?_
                    refine AO.set rfl gnone hH258 (j := 1) rfl (.cons _ (.cons _ (List.Sublist.refl _))) (run_stEl rfl rfl rfl (hH258.blk (i := 1) rfl)) ?_
                    intro w262 hH263
                    simp only [List.set_cons_zero, List.set_cons_succ] at hH263
                    refine AN.one 10 (by kernel_rfl) ?_
                    refine AO.set rfl gnone hH263 (j := 0) rfl (.cons _ (.cons _ (List.Sublist.refl _))) (run_stEl rfl rfl rfl (hH263.blk (i := 0) rfl)) ?_
                    intro w266 hH267
                    simp only [List.set_cons_zero, List.set_cons_succ] at hH267
                    refine AN.done (by kernel_rfl) ?_
                    refine ⟨((((((((((Fr.refl _ _)).u rfl).u rfl).u rfl).u rfl).u rfl).u rfl).u rfl).u rfl).u rfl, b252, b259, ((hH267.sub (List.Sublist.refl _)).perm (((List.Perm.cons _ (List.Perm.refl _)).trans (List.Perm.swap _ _ _)).trans (List.Perm.cons _ (List.Perm.refl _)))), rfl, rfl⟩
                  · refine AO.new rfl gnone rfl hH254 (.cons _ (List.Sublist.refl _)) (f := fun b => .pointer (some ⟨b, 0, none⟩)) (run_alloc zero_el) ?_
                    intro b270 w268 hH269
                    refine AN.one 6 (by kernel_rfl) ?_
                    refine AO.callP rfl gnone rfl hH269 (.cons _ (.cons _ (List.Sublist.refl _))) (c_shape_Meet _ _  _) (run_call2 Tryd.call17 rfl rfl) ?_
                    intro w271 hH272
                    refine AN.one 9 (by kernel_rfl) ?_
                    refine AO.set rfl gnone hH272 (j := 1) rfl (.cons _ (.cons _ (List.Sublist.refl _))) (run_stEl rfl rfl rfl (hH272.blk (i := 1) rfl)) ?_
                    intro w275 hH276
                    simp only [List.set_cons_zero, List.set_cons_succ] at hH276
                    refine AN.one 10 (by kernel_rfl) ?_
                    refine AO.set rfl gnone hH276 (j := 0) rfl (.cons _ (.cons _ (List.Sublist.refl _))) (run_stEl rfl rfl rfl (hH276.blk (i := 0) rfl)) ?_
                    intro w279 hH280
                    simp only [List.set_cons_zero, List.set_cons_succ] at hH280
                    refine AN.done (by kernel_rfl) ?_
                    refine ⟨((((((((((Fr.refl _ _)).u rfl).u rfl).u rfl).u rfl).u rfl).u rfl).u rfl).u rfl).u rfl, b252, b270, ((hH280.sub (List.Sublist.refl _)).perm (((List.Perm.cons _ (List.Perm.refl _)).trans (List.Perm.swap _ _ _)).trans (List.Perm.cons _ (List.Perm.refl _)))), rfl, rfl⟩
                · refine AO.new rfl gnone rfl hH251 (.cons _ (List.Sublist.refl _)) (f := fun b => .pointer (some ⟨b, 0, none⟩)) (run_alloc zero_el) ?_
                  intro b283 w281 hH282
                  refine AN.one 3 (by kernel_rfl) ?_
                  refine AO.callP rfl gnone rfl hH282 (.cons _ (.cons _ (List.Sublist.refl _))) (c_shape_Join _ _ _  _ (hs.mono hH282.kw) (hT.hp hH282)) (run_call3 Tryd.call15 rfl rfl rfl) ?_
                  intro w284 hH285
                  refine AN.one 6 (by kernel_rfl) ?_
                  refine AO.callP rfl gnone rfl hH285 (.cons _ (.cons _ (List.Sublist.refl _))) (c_shape_Meet _ _  _) (run_call2 Tryd.call17 rfl rfl) ?_
                  intro w286 hH287
                  refine AN.one 9 (by kernel_rfl) ?_
                  refine AO.set rfl gnone hH287 (j := 1) rfl (.cons _ (.cons _ (List.Sublist.refl _))) (run_stEl rfl rfl rfl (hH287.blk (i := 1) rfl)) ?_
                  intro w290 hH291
                  simp only [List.set_cons_zero, List.set_cons_succ] at hH291
                  refine AN.one 10 (by kernel_rfl) ?_
                  refine AO.set rfl gnone hH291 (j := 0) rfl (.cons _ (.cons _ (List.Sublist.refl _))) (run_stEl rfl rfl rfl (hH291.blk (i := 0) rfl)) ?_
                  intro w294 hH295
                  simp only [List.set_cons_zero, List.set_cons_succ] at hH295
                  refine AN.done (by kernel_rfl) ?_
                  refine ⟨((((((((((Fr.refl _ _)).u rfl).u rfl).u rfl).u rfl).u rfl).u rfl).u rfl).u rfl).u rfl, b252, b283, ((hH295.sub (List.Sublist.refl _)).perm (((List.Perm.cons _ (List.Perm.refl _)).trans (List.Perm.swap _ _ _)).trans (List.Perm.cons _ (List.Perm.refl _)))), rfl, rfl⟩
              · refine AO.new rfl gnone rfl hH159 (List.Sublist.refl _) (f := fun b => .pointer (some ⟨b, 0, none⟩)) (run_alloc zero_el) ?_
                intro b298 w296 hH297
                refine AN.two 3 7 (by kernel_rfl) ?_ ?_
                · refine AO.callP rfl gnone rfl hH297 (.cons _ (List.Sublist.refl _)) (c_shape_Join _ _ _  _ (hs.mono hH297.kw) (hT.hp hH297)) (run_call3 Tryd.call15 rfl rfl rfl) ?_
                  intro w299 hH300
                  refine AN.two 6 7 (by kernel_rfl) ?_ ?_
                  · refine AO.callP rfl gnone rfl hH300 (.cons _ (List.Sublist.refl _)) (c_shape_Meet _ _  _) (run_call2 Tryd.call17 rfl rfl) ?_
                    intro w301 hH302
                    refine AN.one 7 (by kernel_rfl) ?_
                    refine AO.new rfl gnone rfl hH302 (.cons _ (List.Sublist.refl _)) (f := fun b => .pointer (some ⟨b, 0, none⟩)) (run_alloc zero_el) ?_
                    intro b305 w303 hH304
                    refine AN.one 9 (by kernel_rfl) ?_
                    refine AO.set rfl gnone hH304 (j := 0) rfl (.cons _ (.cons _ (List.Sublist.refl _))) (run_stEl rfl rfl rfl (hH304.blk (i := 0) rfl)) ?_
                    intro w308 hH309
                    simp only [List.set_cons_zero, List.set_cons_succ] at hH309
                    refine AN.one 10 (by kernel_rfl) ?_
                    refine AO.set rfl gnone hH309 (j := 1) rfl (.cons _ (.cons _ (List.Sublist.refl _))) (run_stEl rfl rfl rfl (hH309.blk (i := 1) rfl)) ?_
                    intro w312 hH313
                    simp only [List.set_cons_zero, List.set_cons_succ] at hH313
                    refine AN.done (by kernel_rfl) ?_
                    refine ⟨((((((((((Fr.refl _ _)).u rfl).u rfl).u rfl).u rfl).u rfl).u rfl).u rfl).u rfl).u rfl, b305, b298, ((hH313.sub (List.Sublist.refl _)).perm (List.Perm.refl _)), rfl, rfl⟩
                  · refine AO.new rfl gnone rfl hH300 (.cons _ (List.Sublist.refl _)) (f := fun b => .pointer (some ⟨b, 0, none⟩)) (run_alloc zero_el) ?_
                    intro b316 w314 hH315
                    refine AN.one 6 (by kernel_rfl) ?_
                    refine AO.callP rfl gnone rfl hH315 (.cons _ (.cons _ (List.Sublist.refl _))) (c_shape_Meet _ _  _) (run_call2 Tryd.call17 rfl rfl) ?_
                    intro w317 hH318
                    refine AN.one 9 (by kernel_rfl) ?_
                    refine AO.set rfl gnone hH318 (j := 0) rfl (.cons _ (.cons _ (List.Sublist.refl _))) (run_stEl rfl rfl rfl (hH318.blk (i := 0) rfl)) ?_
                    intro w321 hH322
                    simp only [List.set_cons_zero, List.set_cons_succ] at hH322
                    refine AN.one 10 (by kernel_rfl) ?_
                    refine AO.set rfl gnone hH322 (j := 1) rfl (.cons _ (.cons _ (List.Sublist.refl _))) (run_stEl rfl rfl rfl (hH322.blk (i := 1) rfl)) ?_
                    intro w325 hH326
                    simp only [List.set_cons_zero, List.set_cons_succ] at hH326
                    refine AN.done (by kernel_rfl) ?_
                    refine ⟨((((((((((Fr.refl _ _)).u rfl).u rfl).u rfl).u rfl).u rfl).u rfl).u rfl).u rfl).u rfl, b316, b298, ((hH326.sub (List.Sublist.refl _)).perm (List.Perm.refl _)), rfl, rfl⟩
                · refine AO.new rfl gnone rfl hH297 (.cons _ (List.Sublist.refl _)) (f := fun b => .pointer (some ⟨b, 0, none⟩)) (run_alloc zero_el) ?_
                  intro b329 w327 hH328
                  refine AN.one 3 (by kernel_rfl) ?_
                  refine AO.callP rfl gnone rfl hH328 (.cons _ (.cons _ (List.Sublist.refl _))) (c_shape_Join _ _ _  _ (hs.mono hH328.kw) (hT.hp hH328)) (run_call3 Tryd.call15 rfl rfl rfl) ?_
                  intro w330 hH331
                  refine AN.one 6 (by kernel_rfl) ?_
                  refine AO.callP rfl gnone rfl hH331 (.cons _ (.cons _ (List.Sublist.refl _))) (c_shape_Meet _ _  _) (run_call2 Tryd.call17 rfl rfl) ?_
                  intro w332 hH333
                  refine AN.one 9 (by kernel_rfl) ?_
                  refine AO.set rfl gnone hH333 (j := 0) rfl (.cons _ (.cons _ (List.Sublist.refl _))) (run_stEl rfl rfl rfl (hH333.blk (i := 0) rfl)) ?_
                  intro w336 hH337
                  simp only [List.set_cons_zero, List.set_cons_succ] at hH337
                  refine AN.one 10 (by kernel_rfl) ?_
                  refine AO.set rfl gnone hH337 (j := 1) rfl (.cons _ (.cons _ (List.Sublist.refl _))) (run_stEl rfl rfl rfl (hH337.blk (i := 1) rfl)) ?_
                  intro w340 hH341
                  simp only [List.set_cons_zero, List.set_cons_succ] at hH341
                  refine AN.done (by kernel_rfl) ?_
                  refine ⟨((((((((((Fr.refl _ _)).u rfl).u rfl).u rfl).u rfl).u rfl).u rfl).u rfl).u rfl).u rfl, b329, b298, ((hH341.sub (List.Sublist.refl _)).perm (List.Perm.refl _)), rfl, rfl⟩
            · rintro sg342 w342 fr342 ⟨q8, q9, hH342, e8_342, e9_342⟩
              have e2_342 := (fr342 2 rfl).trans e2_126
              have e4_342 := (fr342 4 rfl).trans e4_126
              have e5_342 := (fr342 5 rfl).trans e5_126
              have e6_342 := (fr342 6 rfl).trans e6_126
              have e7_342 := (fr342 7 rfl).trans e7_126
              refine CW.seq ?_
              refine CW.seq ?_
              refine CW.region ?_
              refine RL.val rfl (run_ldA (cs := [B _, _]) Tryd.underlying24 rfl rfl e2_342 (rangeAt_cells (hH342.blk (i := 5) rfl))) ?_
              refine RL.val rfl (run_ldEl Tryd.underlying40 rfl rfl e8_342 (hH342.blk (i := 0) rfl)) ?_
              refine RL.callP rfl hH342 (c_shape_Fits _ _  _ (hs.mono hH342.kw) (hT.hp hH342)) (run_call2 Tryd.call13 rfl rfl) ?_
              intro w343 hH344
              refine RL.val rfl (run_not (bR (c := true) ((e_join (nf ‹(!fitsS s.sh a) = false›) (nf ‹(!fitsS s.sh b) = false›))))) ?_
              refine RL.val rfl (run_move (v := B _) rfl) ?_
              refine RL.gT rfl rfl ?_
              refine RL.val rfl (run_ldA (cs := [B _, _]) Tryd.underlying24 rfl rfl e2_342 (rangeAt_cells (hH344.blk (i := 5) rfl))) ?_
              refine RL.gT rfl rfl ?_
              refine RL.val rfl (run_ldEl Tryd.underlying40 rfl rfl e9_342 (hH344.blk (i := 1) rfl)) ?_
              refine RL.gT rfl rfl ?_
              refine RL.callP rfl hH344 (c_shape_Fits _ _  _ (hs.mono hH344.kw) (hT.hp hH344)) (run_call2 Tryd.call13 rfl rfl) ?_
              intro w346 hH347
              refine RL.gT rfl rfl ?_
              refine RL.val rfl (run_not (bR (c := true) ((e_meet (nf ‹(!fitsS s.sh a) = false›) (nf ‹(!fitsS s.sh b) = false›))))) ?_
              refine RL.val rfl (run_pickF rfl (v := B _) rfl) ?_
              refine RL.val rfl (run_move (v := B _) rfl) ?_
              refine RL.gT rfl rfl ?_
              refine RL.val rfl (run_ldEl Tryd.underlying40 rfl rfl e5_342 (hH347.blk (i := 2) rfl)) ?_
              refine RL.gT rfl rfl ?_
              refine RL.val rfl (run_ldEl Tryd.underlying40 rfl rfl e8_342 (hH347.blk (i := 0) rfl)) ?_
              refine RL.gT rfl rfl ?_
              refine RL.callP rfl hH347 (c_shape_Leq _ _  _) (run_call2 Tryd.call18 rfl rfl) ?_
              intro w349 hH350
              refine RL.gT rfl rfl ?_
              refine RL.val rfl (run_not (bR (c := true) ((e_up (nf ‹(!fitsS s.sh a) = false›) (nf ‹(!fitsS s.sh b) = false›)).1))) ?_
              refine RL.val rfl (run_pickF rfl (v := B _) rfl) ?_
              refine RL.val rfl (run_move (v := B _) rfl) ?_
              refine RL.gT rfl rfl ?_
              refine RL.val rfl (run_ldEl Tryd.underlying40 rfl rfl e6_342 (hH350.blk (i := 3) rfl)) ?_
              refine RL.gT rfl rfl ?_
              refine RL.val rfl (run_ldEl Tryd.underlying40 rfl rfl e8_342 (hH350.blk (i := 0) rfl)) ?_
              refine RL.gT rfl rfl ?_
              refine RL.callP rfl hH350 (c_shape_Leq _ _  _) (run_call2 Tryd.call18 rfl rfl) ?_
              intro w352 hH353
              refine RL.gT rfl rfl ?_
              refine RL.val rfl (run_not (bR (c := true) ((e_up (nf ‹(!fitsS s.sh a) = false›) (nf ‹(!fitsS s.sh b) = false›)).2))) ?_
              refine RL.val rfl (run_pickF rfl (v := B _) rfl) ?_
              refine RL.val rfl (run_move (v := B _) rfl) ?_
              refine RL.gT rfl rfl ?_
              refine RL.val rfl (run_ldEl Tryd.underlying40 rfl rfl e9_342 (hH353.blk (i := 1) rfl)) ?_
              refine RL.gT rfl rfl ?_
              refine RL.val rfl (run_ldEl Tryd.underlying40 rfl rfl e5_342 (hH353.blk (i := 2) rfl)) ?_
              refine RL.gT rfl rfl ?_
              refine RL.callP rfl hH353 (c_shape_Leq _ _  _) (run_call2 Tryd.call18 rfl rfl) ?_
              intro w355 hH356
              refine RL.gT rfl rfl ?_
              refine RL.val rfl (run_not (bR (c := true) ((e_down a b).1))) ?_
              refine RL.val rfl (run_pickF rfl (v := B _) rfl) ?_
              refine RL.val rfl (run_move (v := B _) rfl) ?_
              refine RL.gT rfl rfl ?_
              refine RL.val rfl (run_ldEl Tryd.underlying40 rfl rfl e9_342 (hH356.blk (i := 1) rfl)) ?_
              refine RL.gT rfl rfl ?_
              refine RL.val rfl (run_ldEl Tryd.underlying40 rfl rfl e6_342 (hH356.blk (i := 3) rfl)) ?_
              refine RL.gT rfl rfl ?_
              refine RL.callP rfl hH356 (c_shape_Leq _ _  _) (run_call2 Tryd.call18 rfl rfl) ?_
              intro w358 hH359
              refine RL.gT rfl rfl ?_
              refine RL.val rfl (run_not (bR (c := true) ((e_down a b).2))) ?_
              refine RL.val rfl (run_pickF rfl (v := B _) rfl) ?_
              refine RL.nil ?_
              refine CW.condF rfl ?_
              refine CW.skip ?_
              refine CW.seq ?_
              refine CW.cutF [78, 79, 80, 81, 82, 83, 84, 85, 86, 87, 88, 89, 90, 91, 92, 93, 94, 95, 96, 97, 98, 99, 100, 101, 102, 103, 104, 105, 106, 107] (fun s' w' => (Hp w w' [.blk q8 (.cells (elC (joinS s.sh a b)) 40 (0, 0)), .blk q9 (.cells (elC (meetE a b)) 40 (0, 0)), .blk q5 (.cells (elC a) 40 (0, 0)), .blk q6 (.cells (elC b) 40 (0, 0)), .blk q7 (.cells (elC c) 40 (0, 0)), .blk b3 (.cells (shpC s) 24 (0, 0))]) ∧ (s' 107 = .bool false)) ?_ ?_
              · refine CW.region ?_
                refine RL.val rfl (run_ldEl Tryd.underlying40 rfl rfl e5_342 (hH359.blk (i := 2) rfl)) ?_
                refine RL.val rfl (run_ldEl Tryd.underlying40 rfl rfl e7_342 (hH359.blk (i := 4) rfl)) ?_
                refine RL.callP rfl hH359 (c_shape_Leq _ _  _) (run_call2 Tryd.call18 rfl rfl) ?_
                intro w361 hH362
                refine RL.val rfl (run_move (v := B _) rfl) ?_
                refine RL.split (dj := 81) rfl (fun h364 => ?_) (fun h364 => ?_)
                · refine RL.gT rfl (bR (c := true) h364) ?_
                  refine RL.val rfl (run_ldEl Tryd.underlying40 rfl rfl e6_342 (hH362.blk (i := 3) rfl)) ?_
                  refine RL.gT rfl (bR (c := true) h364) ?_
                  refine RL.val rfl (run_ldEl Tryd.underlying40 rfl rfl e7_342 (hH362.blk (i := 4) rfl)) ?_
                  refine RL.gT rfl (bR (c := true) h364) ?_
                  refine RL.callP rfl hH362 (c_shape_Leq _ _  _) (run_call2 Tryd.call18 rfl rfl) ?_
                  intro w365 hH366
                  refine RL.val rfl (run_pickT (bR (c := true) h364) (v := B _) rfl) ?_
                  refine RL.val rfl (run_move (v := B _) rfl) ?_
                  refine RL.split (dj := 86) rfl (fun h368 => ?_) (fun h368 => ?_)
                  · refine RL.gT rfl (bR (c := true) h368) ?_
                    refine RL.val rfl (run_ldEl Tryd.underlying40 rfl rfl e8_342 (hH366.blk (i := 0) rfl)) ?_
                    refine RL.gT rfl (bR (c := true) h368) ?_
                    refine RL.val rfl (run_ldEl Tryd.underlying40 rfl rfl e7_342 (hH366.blk (i := 4) rfl)) ?_
                    refine RL.gT rfl (bR (c := true) h368) ?_
                    refine RL.callP rfl hH366 (c_shape_Leq _ _  _) (run_call2 Tryd.call18 rfl rfl) ?_
                    intro w369 hH370
                    refine RL.gT rfl (bR (c := true) h368) ?_
                    refine RL.val rfl (run_not (bR (c := true) ((e_lub (nf ‹(!fitsS s.sh a) = false›) (nf ‹(!fitsS s.sh b) = false›) (nf ‹(!fitsS s.sh c) = false›) ‹leqE a c = true› ‹leqE b c = true›)))) ?_
                    refine RL.val rfl (run_pickT (bR (c := true) h368) (v := B _) rfl) ?_
                    refine RL.val rfl (run_move (v := B _) rfl) ?_
                    refine RL.gT rfl rfl ?_
                    refine RL.val rfl (run_ldEl Tryd.underlying40 rfl rfl e7_342 (hH370.blk (i := 4) rfl)) ?_
                    refine RL.gT rfl rfl ?_
                    refine RL.val rfl (run_ldEl Tryd.underlying40 rfl rfl e5_342 (hH370.blk (i := 2) rfl)) ?_
                    refine RL.gT rfl rfl ?_
                    refine RL.callP rfl hH370 (c_shape_Leq _ _  _) (run_call2 Tryd.call18 rfl rfl) ?_
                    intro w372 hH373
                    refine RL.gT rfl rfl ?_
                    refine RL.val rfl (run_move (v := B _) rfl) ?_
                    refine RL.split (dj := 96) rfl (fun h375 => ?_) (fun h375 => ?_)
                    · refine RL.gT rfl (bR (c := true) h375) ?_
                      refine RL.val rfl (run_ldEl Tryd.underlying40 rfl rfl e7_342 (hH373.blk (i := 4) rfl)) ?_
                      refine RL.gT rfl (bR (c := true) h375) ?_
                      refine RL.val rfl (run_ldEl Tryd.underlying40 rfl rfl e6_342 (hH373.blk (i := 3) rfl)) ?_
                      refine RL.gT rfl (bR (c := true) h375) ?_
                      refine RL.callP rfl hH373 (c_shape_Leq _ _  _) (run_call2 Tryd.call18 rfl rfl) ?_
                      intro w376 hH377
                      refine RL.gT rfl rfl ?_
                      refine RL.val rfl (run_pickT (bR (c := true) h375) (v := B _) rfl) ?_
                      refine RL.gT rfl rfl ?_
                      refine RL.val rfl (run_move (v := B _) rfl) ?_
                      refine RL.split (dj := 101) rfl (fun h379 => ?_) (fun h379 => ?_)
                      · refine RL.gT rfl (bR (c := true) h379) ?_
                        refine RL.val rfl (run_ldEl Tryd.underlying40 rfl rfl e7_342 (hH377.blk (i := 4) rfl)) ?_
                        refine RL.gT rfl (bR (c := true) h379) ?_
                        refine RL.val rfl (run_ldEl Tryd.underlying40 rfl rfl e9_342 (hH377.blk (i := 1) rfl)) ?_
                        refine RL.gT rfl (bR (c := true) h379) ?_
                        refine RL.callP rfl hH377 (c_shape_Leq _ _  _) (run_call2 Tryd.call18 rfl rfl) ?_
                        intro w380 hH381
                        refine RL.gT rfl (bR (c := true) h379) ?_
                        refine RL.val rfl (run_not (bR (c := true) ((e_glb ‹leqE c a = true› ‹leqE c b = true›)))) ?_
                        refine RL.gT rfl rfl ?_
                        refine RL.val rfl (run_pickT (bR (c := true) h379) (v := B _) rfl) ?_
                        refine RL.val rfl (run_pickF rfl (v := B _) rfl) ?_
                        refine RL.nil ?_
                        refine ⟨(((((((((((((((((((((((((((((((Fr.refl _ _)).u rfl).u rfl).u rfl).u rfl).u rfl).u rfl).u rfl).u rfl).u rfl).u rfl).u rfl).u rfl).u rfl).u rfl).u rfl).u rfl).u rfl).u rfl).u rfl).u rfl).u rfl).u rfl).u rfl).u rfl).u rfl).u rfl).u rfl).u rfl).u rfl).u rfl, ((hH381.sub (List.Sublist.refl _)).perm (List.Perm.refl _)), rfl⟩
                      · refine RL.gF rfl rfl (bR (c := false) h379) rfl ?_
                        refine RL.gF rfl rfl (bR (c := false) h379) rfl ?_
                        refine RL.gF rfl rfl (bR (c := false) h379) rfl ?_
                        refine RL.gF rfl rfl (bR (c := false) h379) rfl ?_
                        refine RL.gT rfl rfl ?_
                        refine RL.val rfl (run_pickF (bR (c := false) h379) (v := B false) rfl) ?_
                        refine RL.val rfl (run_pickF rfl (v := B _) rfl) ?_
                        refine RL.nil ?_
                        refine ⟨(((((((((((((((((((((((((((((((Fr.refl _ _)).u rfl).u rfl).u rfl).u rfl).u rfl).u rfl).u rfl).u rfl).u rfl).u rfl).u rfl).u rfl).u rfl).u rfl).u rfl).u rfl).u rfl).u rfl).u rfl).u rfl).u rfl).u rfl).u rfl).u rfl).u rfl).u rfl).u rfl).u rfl).u rfl).u rfl, ((hH377.sub (List.Sublist.refl _)).perm (List.Perm.refl _)), rfl⟩
                    · refine RL.gF rfl rfl (bR (c := false) h375) rfl ?_
                      refine RL.gF rfl rfl (bR (c := false) h375) rfl ?_
                      refine RL.gF rfl rfl (bR (c := false) h375) rfl ?_
                      refine RL.gT rfl rfl ?_
                      refine RL.val rfl (run_pickF (bR (c := false) h375) (v := B false) rfl) ?_
                      refine RL.gT rfl rfl ?_
                      refine RL.val rfl (run_move (v := B _) rfl) ?_
                      refine RL.gF rfl rfl rfl rfl ?_
                      refine RL.gF rfl rfl rfl rfl ?_
                      refine RL.gF rfl rfl rfl rfl ?_
                      refine RL.gF rfl rfl rfl rfl ?_
                      refine RL.gT rfl rfl ?_
                      refine RL.val rfl (run_pickF rfl (v := B false) rfl) ?_
                      refine RL.val rfl (run_pickF rfl (v := B _) rfl) ?_
                      refine RL.nil ?_
                      refine ⟨(((((((((((((((((((((((((((((((Fr.refl _ _)).u rfl).u rfl).u rfl).u rfl).u rfl).u rfl).u rfl).u rfl).u rfl).u rfl).u rfl).u rfl).u rfl).u rfl).u rfl).u rfl).u rfl).u rfl).u rfl).u rfl).u rfl).u rfl).u rfl).u rfl).u rfl).u rfl).u rfl).u rfl).u rfl).u rfl, ((hH373.sub (List.Sublist.refl _)).perm (List.Perm.refl _)), rfl⟩
                  · refine RL.gF rfl rfl (bR (c := false) h368) rfl ?_
                    refine RL.gF rfl rfl (bR (c := false) h368) rfl ?_
                    refine RL.gF rfl rfl (bR (c := false) h368) rfl ?_
                    refine RL.gF rfl rfl (bR (c := false) h368) rfl ?_
                    refine RL.val rfl (run_pickF (bR (c := false) h368) (v := B false) rfl) ?_
                    refine RL.val rfl (run_move (v := B _) rfl) ?_
                    refine RL.gT rfl rfl ?_
                    refine RL.val rfl (run_ldEl Tryd.underlying40 rfl rfl e7_342 (hH366.blk (i := 4) rfl)) ?_
                    refine RL.gT rfl rfl ?_
                    refine RL.val rfl (run_ldEl Tryd.underlying40 rfl rfl e5_342 (hH366.blk (i := 2) rfl)) ?_
                    refine RL.gT rfl rfl ?_
                    refine RL.callP rfl hH366 (c_shape_Leq _ _  _) (run_call2 Tryd.call18 rfl rfl) ?_
                    intro w383 hH384
                    refine RL.gT rfl rfl ?_
                    refine RL.val rfl (run_move (v := B _) rfl) ?_
                    refine RL.split (dj := 96) rfl (fun h386 => ?_) (fun h386 => ?_)
                    · refine RL.gT rfl (bR (c := true) h386) ?_
                      refine RL.val rfl (run_ldEl Tryd.underlying40 rfl rfl e7_342 (hH384.blk (i := 4) rfl)) ?_
                      refine RL.gT rfl (bR (c := true) h386) ?_
                      refine RL.val rfl (run_ldEl Tryd.underlying40 rfl rfl e6_342 (hH384.blk (i := 3) rfl)) ?_
                      refine RL.gT rfl (bR (c := true) h386) ?_
                      refine RL.callP rfl hH384 (c_shape_Leq _ _  _) (run_call2 Tryd.call18 rfl rfl) ?_
                      intro w387 hH388
                      refine RL.gT rfl rfl ?_
                      refine RL.val rfl (run_pickT (bR (c := true) h386) (v := B _) rfl) ?_
                      refine RL.gT rfl rfl ?_
                      refine RL.val rfl (run_move (v := B _) rfl) ?_
                      refine RL.split (dj := 101) rfl (fun h390 => ?_) (fun h390 => ?_)
                      · refine RL.gT rfl (bR (c := true) h390) ?_
                        refine RL.val rfl (run_ldEl Tryd.underlying40 rfl rfl e7_342 (hH388.blk (i := 4) rfl)) ?_
                        refine RL.gT rfl (bR (c := true) h390) ?_
                        refine RL.val rfl (run_ldEl Tryd.underlying40 rfl rfl e9_342 (hH388.blk (i := 1) rfl)) ?_
                        refine RL.gT rfl (bR (c := true) h390) ?_
                        refine RL.callP rfl hH388 (c_shape_Leq _ _  _) (run_call2 Tryd.call18 rfl rfl) ?_
                        intro w391 hH392
                        refine RL.gT rfl (bR (c := true) h390) ?_
                        refine RL.val rfl (run_not (bR (c := true) ((e_glb ‹leqE c a = true› ‹leqE c b = true›)))) ?_
                        refine RL.gT rfl rfl ?_
                        refine RL.val rfl (run_pickT (bR (c := true) h390) (v := B _) rfl) ?_
                        refine RL.val rfl (run_pickF rfl (v := B _) rfl) ?_
                        refine RL.nil ?_
                        refine ⟨(((((((((((((((((((((((((((((((Fr.refl _ _)).u rfl).u rfl).u rfl).u rfl).u rfl).u rfl).u rfl).u rfl).u rfl).u rfl).u rfl).u rfl).u rfl).u rfl).u rfl).u rfl).u rfl).u rfl).u rfl).u rfl).u rfl).u rfl).u rfl).u rfl).u rfl).u rfl).u rfl).u rfl).u rfl).u rfl, ((hH392.sub (List.Sublist.refl _)).perm (List.Perm.refl _)), rfl⟩
                      · refine RL.gF rfl rfl (bR (c := false) h390) rfl ?_
                        refine RL.gF rfl rfl (bR (c := false) h390) rfl ?_
                        refine RL.gF rfl rfl (bR (c := false) h390) rfl ?_
                        refine RL.gF rfl rfl (bR (c := false) h390) rfl ?_
                        refine RL.gT rfl rfl ?_
                        refine RL.val rfl (run_pickF (bR (c := false) h390) (v := B false) rfl) ?_
                        refine RL.val rfl (run_pickF rfl (v := B _) rfl) ?_
                        refine RL.nil ?_
                        refine ⟨(((((((((((((((((((((((((((((((Fr.refl _ _)).u rfl).u rfl).u rfl).u rfl).u rfl).u rfl).u rfl).u rfl).u rfl).u rfl).u rfl).u rfl).u rfl).u rfl).u rfl).u rfl).u rfl).u rfl).u rfl).u rfl).u rfl).u rfl).u rfl).u rfl).u rfl).u rfl).u rfl).u rfl).u rfl).u rfl, ((hH388.sub (List.Sublist.refl _)).perm (List.Perm.refl _)), rfl⟩
                    · refine RL.gF rfl rfl (bR (c := false) h386) rfl ?_
                      refine RL.gF rfl rfl (bR (c := false) h386) rfl ?_
                      refine RL.gF rfl rfl (bR (c := false) h386) rfl ?_
                      refine RL.gT rfl rfl ?_
                      refine RL.val rfl (run_pickF (bR (c := false) h386) (v := B false) rfl) ?_
                      refine RL.gT rfl rfl ?_
                      refine RL.val rfl (run_move (v := B _) rfl) ?_
                      refine RL.gF rfl rfl rfl rfl ?_
                      refine RL.gF rfl rfl rfl rfl ?_
                      refine RL.gF rfl rfl rfl rfl ?_
                      refine RL.gF rfl rfl rfl rfl ?_
                      refine RL.gT rfl rfl ?_
                      refine RL.val rfl (run_pickF rfl (v := B false) rfl) ?_
                      refine RL.val rfl (run_pickF rfl (v := B _) rfl) ?_
                      refine RL.nil ?_
                      refine ⟨(((((((((((((((((((((((((((((((Fr.refl _ _)).u rfl).u rfl).u rfl).u rfl).u rfl).u rfl).u rfl).u rfl).u rfl).u rfl).u rfl).u rfl).u rfl).u rfl).u rfl).u rfl).u rfl).u rfl).u rfl).u rfl).u rfl).u rfl).u rfl).u rfl).u rfl).u rfl).u rfl).u rfl).u rfl).u rfl, ((hH384.sub (List.Sublist.refl _)).perm (List.Perm.refl _)), rfl⟩
                · refine RL.gF rfl rfl (bR (c := false) h364) rfl ?_
                  refine RL.gF rfl rfl (bR (c := false) h364) rfl ?_
                  refine RL.gF rfl rfl (bR (c := false) h364) rfl ?_
                  refine RL.val rfl (run_pickF (bR (c := false) h364) (v := B false) rfl) ?_
                  refine RL.val rfl (run_move (v := B _) rfl) ?_
                  refine RL.gF rfl rfl rfl rfl ?_
                  refine RL.gF rfl rfl rfl rfl ?_
                  refine RL.gF rfl rfl rfl rfl ?_
                  refine RL.gF rfl rfl rfl rfl ?_
                  refine RL.val rfl (run_pickF rfl (v := B false) rfl) ?_
                  refine RL.val rfl (run_move (v := B _) rfl) ?_
                  refine RL.gT rfl rfl ?_
                  refine RL.val rfl (run_ldEl Tryd.underlying40 rfl rfl e7_342 (hH362.blk (i := 4) rfl)) ?_
                  refine RL.gT rfl rfl ?_
                  refine RL.val rfl (run_ldEl Tryd.underlying40 rfl rfl e5_342 (hH362.blk (i := 2) rfl)) ?_
                  refine RL.gT rfl rfl ?_
                  refine RL.callP rfl hH362 (c_shape_Leq _ _  _) (run_call2 Tryd.call18 rfl rfl) ?_
                  intro w394 hH395
                  refine RL.gT rfl rfl ?_
                  refine RL.val rfl (run_move (v := B _) rfl) ?_
                  refine RL.split (dj := 96) rfl (fun h397 => ?_) (fun h397 => ?_)
                  · refine RL.gT rfl (bR (c := true) h397) ?_
                    refine RL.val rfl (run_ldEl Tryd.underlying40 rfl rfl e7_342 (hH395.blk (i := 4) rfl)) ?_
                    refine RL.gT rfl (bR (c := true) h397) ?_
                    refine RL.val rfl (run_ldEl Tryd.underlying40 rfl rfl e6_342 (hH395.blk (i := 3) rfl)) ?_
                    refine RL.gT rfl (bR (c := true) h397) ?_
                    refine RL.callP rfl hH395 (c_shape_Leq _ _  _) (run_call2 Tryd.call18 rfl rfl) ?_
                    intro w398 hH399
                    refine RL.gT rfl rfl ?_
                    refine RL.val rfl (run_pickT (bR (c := true) h397) (v := B _) rfl) ?_
                    refine RL.gT rfl rfl ?_
                    refine RL.val rfl (run_move (v := B _) rfl) ?_
                    refine RL.split (dj := 101) rfl (fun h401 => ?_) (fun h401 => ?_)
                    · refine RL.gT rfl (bR (c := true) h401) ?_
                      refine RL.val rfl (run_ldEl Tryd.underlying40 rfl rfl e7_342 (hH399.blk (i := 4) rfl)) ?_
                      refine RL.gT rfl (bR (c := true) h401) ?_
                      refine RL.val rfl (run_ldEl Tryd.underlying40 rfl rfl e9_342 (hH399.blk (i := 1) rfl)) ?_
                      refine RL.gT rfl (bR (c := true) h401) ?_
                      refine RL.callP rfl hH399 (c_shape_Leq _ _  _) (run_call2 Tryd.call18 rfl rfl) ?_
                      intro w402 hH403
                      refine RL.gT rfl (bR (c := true) h401) ?_
                      refine RL.val rfl (run_not (bR (c := true) ((e_glb ‹leqE c a = true› ‹leqE c b = true›)))) ?_
                      refine RL.gT rfl rfl ?_
                      refine RL.val rfl (run_pickT (bR (c := true) h401) (v := B _) rfl) ?_
                      refine RL.val rfl (run_pickF rfl (v := B _) rfl) ?_
                      refine RL.nil ?_
                      refine ⟨(((((((((((((((((((((((((((((((Fr.refl _ _)).u rfl).u rfl).u rfl).u rfl).u rfl).u rfl).u rfl).u rfl).u rfl).u rfl).u rfl).u rfl).u rfl).u rfl).u rfl).u rfl).u rfl).u rfl).u rfl).u rfl).u rfl).u rfl).u rfl).u rfl).u rfl).u rfl).u rfl).u rfl).u rfl).u rfl, ((hH403.sub (List.Sublist.refl _)).perm (List.Perm.refl _)), rfl⟩
                    · refine RL.gF rfl rfl (bR (c := false) h401) rfl ?_
                      refine RL.gF rfl rfl (bR (c := false) h401) rfl ?_
                      refine RL.gF rfl rfl (bR (c := false) h401) rfl ?_
                      refine RL.gF rfl rfl (bR (c := false) h401) rfl ?_
                      refine RL.gT rfl rfl ?_
                      refine RL.val rfl (run_pickF (bR (c := false) h401) (v := B false) rfl) ?_
                      refine RL.val rfl (run_pickF rfl (v := B _) rfl) ?_
                      refine RL.nil ?_
                      refine ⟨(((((((((((((((((((((((((((((((Fr.refl _ _)).u rfl).u rfl).u rfl).u rfl).u rfl).u rfl).u rfl).u rfl).u rfl).u rfl).u rfl).u rfl).u rfl).u rfl).u rfl).u rfl).u rfl).u rfl).u rfl).u rfl).u rfl).u rfl).u rfl).u rfl).u rfl).u rfl).u rfl).u rfl).u rfl).u rfl, ((hH399.sub (List.Sublist.refl _)).perm (List.Perm.refl _)), rfl⟩
                  · refine RL.gF rfl rfl (bR (c := false) h397) rfl ?_
                    refine RL.gF rfl rfl (bR (c := false) h397) rfl ?_
                    refine RL.gF rfl rfl (bR (c := false) h397) rfl ?_
                    refine RL.gT rfl rfl ?_
                    refine RL.val rfl (run_pickF (bR (c := false) h397) (v := B false) rfl) ?_
                    refine RL.gT rfl rfl ?_
                    refine RL.val rfl (run_move (v := B _) rfl) ?_
                    refine RL.gF rfl rfl rfl rfl ?_
                    refine RL.gF rfl rfl rfl rfl ?_
                    refine RL.gF rfl rfl rfl rfl ?_
                    refine RL.gF rfl rfl rfl rfl ?_
                    refine RL.gT rfl rfl ?_
                    refine RL.val rfl (run_pickF rfl (v := B false) rfl) ?_
                    refine RL.val rfl (run_pickF rfl (v := B _) rfl) ?_
                    refine RL.nil ?_
                    refine ⟨(((((((((((((((((((((((((((((((Fr.refl _ _)).u rfl).u rfl).u rfl).u rfl).u rfl).u rfl).u rfl).u rfl).u rfl).u rfl).u rfl).u rfl).u rfl).u rfl).u rfl).u rfl).u rfl).u rfl).u rfl).u rfl).u rfl).u rfl).u rfl).u rfl).u rfl).u rfl).u rfl).u rfl).u rfl).u rfl, ((hH395.sub (List.Sublist.refl _)).perm (List.Perm.refl _)), rfl⟩
              · rintro sg405 w405 fr405 ⟨hH405, e107_405⟩
                have e2_405 := (fr405 2 rfl).trans e2_342
                have e4_405 := (fr405 4 rfl).trans e4_342
                have e5_405 := (fr405 5 rfl).trans e5_342
                have e6_405 := (fr405 6 rfl).trans e6_342
                have e7_405 := (fr405 7 rfl).trans e7_342
                have e8_405 := (fr405 8 rfl).trans e8_342
                have e9_405 := (fr405 9 rfl).trans e9_342
                refine CW.condF e107_405 ?_
                refine CW.skip ?_
                refine CW.seq ?_
                refine CW.cutF [108, 109, 110, 111, 112, 113, 114, 115, 116, 117, 118, 119, 120, 121, 122, 123, 124, 125, 126, 127, 128, 129, 130, 131, 132, 133, 134] (fun s' w' => (Hp w w' [.blk q8 (.cells (elC (joinS s.sh a b)) 40 (0, 0)), .blk q9 (.cells (elC (meetE a b)) 40 (0, 0)), .blk q5 (.cells (elC a) 40 (0, 0)), .blk q6 (.cells (elC b) 40 (0, 0)), .blk q7 (.cells (elC c) 40 (0, 0)), .blk b3 (.cells (shpC s) 24 (0, 0))]) ∧ (s' 134 = .bool false)) ?_ ?_
                · refine CW.regionD (by kernel_rfl) hH405 ?_
                  intro w406 hH407
                  refine AN.take 0 rfl rfl (by kernel_rfl) (by kernel_rfl) (by kernel_rfl) (hH407.sub (List.Sublist.refl _)) (fun w hS => run_ldEl Tryd.underlying40 rfl rfl e5_405 (hS.blk (i := 2) rfl)) ?_
                  refine AN.take 1 rfl rfl (by kernel_rfl) (by kernel_rfl) (by kernel_rfl) (hH407.sub (List.Sublist.refl _)) (fun w hS => run_ldEl Tryd.underlying40 rfl rfl e6_405 (hS.blk (i := 3) rfl)) ?_
                  refine AN.one 2 (by kernel_rfl) ?_
                  refine AO.callP rfl gnone rfl hH407 (List.Sublist.refl _) (c_shape_Leq _ _  _) (run_call2 Tryd.call18 rfl rfl) ?_
                  intro w408 hH409
                  refine AN.take 3 rfl rfl (by kernel_rfl) (by kernel_rfl) (by kernel_rfl) (hH409.sub (List.Sublist.refl _)) (fun w hS => run_move (v := B _) rfl) ?_
                  refine AN.split (dj := 111) rfl (fun h411 => ?_) (fun h411 => ?_)
                  · refine AN.takeG 4 rfl rfl (bR (c := true) h411) rfl (by kernel_rfl) (by kernel_rfl) (by kernel_rfl) (hH409.sub (List.Sublist.refl _)) (fun w hS => run_ldEl Tryd.underlying40 rfl rfl e6_405 (hS.blk (i := 3) rfl)) ?_
                    refine AN.takeG 5 rfl rfl (bR (c := true) h411) rfl (by kernel_rfl) (by kernel_rfl) (by kernel_rfl) (hH409.sub (List.Sublist.refl _)) (fun w hS => run_ldEl Tryd.underlying40 rfl rfl e5_405 (hS.blk (i := 2) rfl)) ?_
                    refine AN.one 6 (by kernel_rfl) ?_
                    refine AO.callP rfl (gsome rfl (bR (c := true) h411)) rfl hH409 (List.Sublist.refl _) (c_shape_Leq _ _  _) (run_call2 Tryd.call18 rfl rfl) ?_
                    intro w412 hH413
                    refine AN.take 7 rfl rfl (by kernel_rfl) (by kernel_rfl) (by kernel_rfl) (hH413.sub (List.Sublist.refl _)) (fun w hS => run_pickT (bR (c := true) h411) (v := B _) rfl) ?_
                    refine AN.take 8 rfl rfl (by kernel_rfl) (by kernel_rfl) (by kernel_rfl) (hH413.sub (List.Sublist.refl _)) (fun w hS => run_move (v := B _) rfl) ?_
                    refine AN.split (dj := 116) rfl (fun h415 => ?_) (fun h415 => ?_)
                    · refine AN.takeG 9 rfl rfl (bR (c := true) h415) rfl (by kernel_rfl) (by kernel_rfl) (by kernel_rfl) (hH413.sub (List.Sublist.refl _)) (fun w hS => run_ldEl Tryd.underlying40 rfl rfl e5_405 (hS.blk (i := 2) rfl)) ?_
                      refine AN.takeG 10 rfl rfl (bR (c := true) h415) rfl (by kernel_rfl) (by kernel_rfl) (by kernel_rfl) (hH413.sub (List.Sublist.refl _)) (fun w hS => run_ldEl Tryd.underlying40 rfl rfl e6_405 (hS.blk (i := 3) rfl)) ?_
                      refine AN.takeG 11 rfl rfl (bR (c := true) h415) rfl (by kernel_rfl) (by kernel_rfl) (by kernel_rfl) (hH413.sub (List.Sublist.refl _)) (fun w hS => run_neqEl elT_fact rfl rfl) ?_
                      refine AN.take 12 rfl rfl (by kernel_rfl) (by kernel_rfl) (by kernel_rfl) (hH413.sub (List.Sublist.refl _)) (fun w hS => run_pickT (bR (c := true) h415) (v := B _) rfl) ?_
                      refine AN.take 13 rfl rfl (by kernel_rfl) (by kernel_rfl) (by kernel_rfl) (hH413.sub (List.Sublist.refl _)) (fun w hS => run_move (v := B _) rfl) ?_
                      refine AN.takeG 14 rfl rfl (bR (c := false) ((by simp [e_anti ‹leqE a b = true› ‹leqE b a = true›]))) rfl (by kernel_rfl) (by kernel_rfl) (by kernel_rfl) (hH413.sub (List.Sublist.refl _)) (fun w hS => run_ldA (cs := [B _, _]) Tryd.underlying24 rfl rfl e2_405 (rangeAt_cells (hS.blk (i := 5) rfl))) ?_
                      refine AN.takeG 16 rfl rfl (bR (c := false) ((by simp [e_anti ‹leqE a b = true› ‹leqE b a = true›]))) rfl (by kernel_rfl) (by kernel_rfl) (by kernel_rfl) (hH413.sub (List.Sublist.refl _)) (fun w hS => run_ldEl Tryd.underlying40 rfl rfl e5_405 (hS.blk (i := 2) rfl)) ?_
                      refine AN.one 15 (by kernel_rfl) ?_
                      refine AO.callP rfl (gsome rfl (bR (c := false) ((by simp [e_anti ‹leqE a b = true› ‹leqE b a = true›])))) rfl hH413 (List.Sublist.refl _) (c_shape_Bottom _  _ (hs.mono hH413.kw) (hT.hp hH413)) (run_call1 Tryd.call12 rfl) ?_
                      intro w417 hH418
                      refine AN.one 17 (by kernel_rfl) ?_
                      refine AO.callP rfl (gsome rfl (bR (c := false) ((by simp [e_anti ‹leqE a b = true› ‹leqE b a = true›])))) rfl hH418 (List.Sublist.refl _) (c_shape_Leq _ _  _) (run_call2 Tryd.call18 rfl rfl) ?_
                      intro w419 hH420
                      refine AN.takeG 18 rfl rfl (bR (c := false) ((by simp [e_anti ‹leqE a b = true› ‹leqE b a = true›]))) rfl (by kernel_rfl) (by kernel_rfl) (by kernel_rfl) (hH420.sub (List.Sublist.refl _)) (fun w hS => run_not (bR (c := true) (((e_bot ((fits_spec (nf ‹(!fitsS s.sh a) = false›)).1)).2 a (nf ‹(!fitsS s.sh a) = false›))))) ?_
                      refine AN.take 19 rfl rfl (by kernel_rfl) (by kernel_rfl) (by kernel_rfl) (hH420.sub (List.Sublist.refl _)) (fun w hS => run_pickF (bR (c := false) ((by simp [e_anti ‹leqE a b = true› ‹leqE b a = true›]))) (v := B _) rfl) ?_
                      refine AN.take 20 rfl rfl (by kernel_rfl) (by kernel_rfl) (by kernel_rfl) (hH420.sub (List.Sublist.refl _)) (fun w hS => run_move (v := B _) rfl) ?_
                      refine AN.takeG 21 rfl rfl rfl rfl (by kernel_rfl) (by kernel_rfl) (by kernel_rfl) (hH420.sub (List.Sublist.refl _)) (fun w hS => run_ldEl Tryd.underlying40 rfl rfl e5_405 (hS.blk (i := 2) rfl)) ?_
                      refine AN.takeG 22 rfl rfl rfl rfl (by kernel_rfl) (by kernel_rfl) (by kernel_rfl) (hH420.sub (List.Sublist.refl _)) (fun w hS => run_ldA (cs := [B _, _]) Tryd.underlying24 rfl rfl e2_405 (rangeAt_cells (hS.blk (i := 5) rfl))) ?_
                      refine AN.one 23 (by kernel_rfl) ?_
                      refine AO.callP rfl (gsome rfl rfl) rfl hH420 (List.Sublist.refl _) (c_shape_Top _  _ (hs.mono hH420.kw) (hT.hp hH420)) (run_call1 Tryd.call14 rfl) ?_
                      intro w422 hH423
                      refine AN.one 24 (by kernel_rfl) ?_
                      refine AO.callP rfl (gsome rfl rfl) rfl hH423 (List.Sublist.refl _) (c_shape_Leq _ _  _) (run_call2 Tryd.call18 rfl rfl) ?_
                      intro w424 hH425
                      refine AN.takeG 25 rfl rfl rfl rfl (by kernel_rfl) (by kernel_rfl) (by kernel_rfl) (hH425.sub (List.Sublist.refl _)) (fun w hS => run_not (bR (c := true) (((e_top ((fits_spec (nf ‹(!fitsS s.sh a) = false›)).1)).2 a (nf ‹(!fitsS s.sh a) = false›))))) ?_
                      refine AN.take 26 rfl rfl (by kernel_rfl) (by kernel_rfl) (by kernel_rfl) (hH425.sub (List.Sublist.refl _)) (fun w hS => run_pickF rfl (v := B _) rfl) ?_
                      refine AN.done (by kernel_rfl) ?_
                      refine ⟨((((((((((((((((((((((((((((Fr.refl _ _)).u rfl).u rfl).u rfl).u rfl).u rfl).u rfl).u rfl).u rfl).u rfl).u rfl).u rfl).u rfl).u rfl).u rfl).u rfl).u rfl).u rfl).u rfl).u rfl).u rfl).u rfl).u rfl).u rfl).u rfl).u rfl).u rfl).u rfl, ((hH425.sub (List.Sublist.refl _)).perm (List.Perm.refl _)), rfl⟩
                    · refine AN.skipG 9 rfl rfl (bR (c := false) h415) rfl rfl (by kernel_rfl) (by kernel_rfl) (by kernel_rfl) (hH413.sub (List.Sublist.refl _)) ?_
                      refine AN.skipG 10 rfl rfl (bR (c := false) h415) rfl rfl (by kernel_rfl) (by kernel_rfl) (by kernel_rfl) (hH413.sub (List.Sublist.refl _)) ?_
                      refine AN.skipG 11 rfl rfl (bR (c := false) h415) rfl rfl (by kernel_rfl) (by kernel_rfl) (by kernel_rfl) (hH413.sub (List.Sublist.refl _)) ?_
                      refine AN.take 12 rfl rfl (by kernel_rfl) (by kernel_rfl) (by kernel_rfl) (hH413.sub (List.Sublist.refl _)) (fun w hS => run_pickF (bR (c := false) h415) (v := B false) rfl) ?_
                      refine AN.take 13 rfl rfl (by kernel_rfl) (by kernel_rfl) (by kernel_rfl) (hH413.sub (List.Sublist.refl _)) (fun w hS => run_move (v := B _) rfl) ?_
                      refine AN.takeG 14 rfl rfl rfl rfl (by kernel_rfl) (by kernel_rfl) (by kernel_rfl) (hH413.sub (List.Sublist.refl _)) (fun w hS => run_ldA (cs := [B _, _]) Tryd.underlying24 rfl rfl e2_405 (rangeAt_cells (hS.blk (i := 5) rfl))) ?_
                      refine AN.takeG 16 rfl rfl rfl rfl (by kernel_rfl) (by kernel_rfl) (by kernel_rfl) (hH413.sub (List.Sublist.refl _)) (fun w hS => run_ldEl Tryd.underlying40 rfl rfl e5_405 (hS.blk (i := 2) rfl)) ?_
                      refine AN.one 15 (by kernel_rfl) ?_
                      refine AO.callP rfl (gsome rfl rfl) rfl hH413 (List.Sublist.refl _) (c_shape_Bottom _  _ (hs.mono hH413.kw) (hT.hp hH413)) (run_call1 Tryd.call12 rfl) ?_
                      intro w427 hH428
                      refine AN.one 17 (by kernel_rfl) ?_
                      refine AO.callP rfl (gsome rfl rfl) rfl hH428 (List.Sublist.refl _) (c_shape_Leq _ _  _) (run_call2 Tryd.call18 rfl rfl) ?_
                      intro w429 hH430
                      refine AN.takeG 18 rfl rfl rfl rfl (by kernel_rfl) (by kernel_rfl) (by kernel_rfl) (hH430.sub (List.Sublist.refl _)) (fun w hS => run_not (bR (c := true) (((e_bot ((fits_spec (nf ‹(!fitsS s.sh a) = false›)).1)).2 a (nf ‹(!fitsS s.sh a) = false›))))) ?_
                      refine AN.take 19 rfl rfl (by kernel_rfl) (by kernel_rfl) (by kernel_rfl) (hH430.sub (List.Sublist.refl _)) (fun w hS => run_pickF rfl (v := B _) rfl) ?_
                      refine AN.take 20 rfl rfl (by kernel_rfl) (by kernel_rfl) (by kernel_rfl) (hH430.sub (List.Sublist.refl _)) (fun w hS => run_move (v := B _) rfl) ?_
                      refine AN.takeG 21 rfl rfl rfl rfl (by kernel_rfl) (by kernel_rfl) (by kernel_rfl) (hH430.sub (List.Sublist.refl _)) (fun w hS => run_ldEl Tryd.underlying40 rfl rfl e5_405 (hS.blk (i := 2) rfl)) ?_
                      refine AN.takeG 22 rfl rfl rfl rfl (by kernel_rfl) (by kernel_rfl) (by kernel_rfl) (hH430.sub (List.Sublist.refl _)) (fun w hS => run_ldA (cs := [B _, _]) Tryd.underlying24 rfl rfl e2_405 (rangeAt_cells (hS.blk (i := 5) rfl))) ?_
                      refine AN.one 23 (by kernel_rfl) ?_
                      refine AO.callP rfl (gsome rfl rfl) rfl hH430 (List.Sublist.refl _) (c_shape_Top _  _ (hs.mono hH430.kw) (hT.hp hH430)) (run_call1 Tryd.call14 rfl) ?_
                      intro w432 hH433
                      refine AN.one 24 (by kernel_rfl) ?_
                      refine AO.callP rfl (gsome rfl rfl) rfl hH433 (List.Sublist.refl _) (c_shape_Leq _ _  _) (run_call2 Tryd.call18 rfl rfl) ?_
                      intro w434 hH435
                      refine AN.takeG 25 rfl rfl rfl rfl (by kernel_rfl) (by kernel_rfl) (by kernel_rfl) (hH435.sub (List.Sublist.refl _)) (fun w hS => run_not (bR (c := true) (((e_top ((fits_spec (nf ‹(!fitsS s.sh a) = false›)).1)).2 a (nf ‹(!fitsS s.sh a) = false›))))) ?_
                      refine AN.take 26 rfl rfl (by kernel_rfl) (by kernel_rfl) (by kernel_rfl) (hH435.sub (List.Sublist.refl _)) (fun w hS => run_pickF rfl (v := B _) rfl) ?_
                      refine AN.done (by kernel_rfl) ?_
                      refine ⟨((((((((((((((((((((((((((((Fr.refl _ _)).u rfl).u rfl).u rfl).u rfl).u rfl).u rfl).u rfl).u rfl).u rfl).u rfl).u rfl).u rfl).u rfl).u rfl).u rfl).u rfl).u rfl).u rfl).u rfl).u rfl).u rfl).u rfl).u rfl).u rfl).u rfl).u rfl).u rfl, ((hH435.sub (List.Sublist.refl _)).perm (List.Perm.refl _)), rfl⟩
                  · refine AN.skipG 4 rfl rfl (bR (c := false) h411) rfl rfl (by kernel_rfl) (by kernel_rfl) (by kernel_rfl) (hH409.sub (List.Sublist.refl _)) ?_
                    refine AN.skipG 5 rfl rfl (bR (c := false) h411) rfl rfl (by kernel_rfl) (by kernel_rfl) (by kernel_rfl) (hH409.sub (List.Sublist.refl _)) ?_
                    refine AN.skipG 6 rfl rfl (bR (c := false) h411) rfl rfl (by kernel_rfl) (by kernel_rfl) (by kernel_rfl) (hH409.sub (List.Sublist.refl _)) ?_
                    refine AN.take 7 rfl rfl (by kernel_rfl) (by kernel_rfl) (by kernel_rfl) (hH409.sub (List.Sublist.refl _)) (fun w hS => run_pickF (bR (c := false) h411) (v := B false) rfl) ?_
                    refine AN.take 8 rfl rfl (by kernel_rfl) (by kernel_rfl) (by kernel_rfl) (hH409.sub (List.Sublist.refl _)) (fun w hS => run_move (v := B _) rfl) ?_
                    refine AN.skipG 9 rfl rfl rfl rfl rfl (by kernel_rfl) (by kernel_rfl) (by kernel_rfl) (hH409.sub (List.Sublist.refl _)) ?_
                    refine AN.skipG 10 rfl rfl rfl rfl rfl (by kernel_rfl) (by kernel_rfl) (by kernel_rfl) (hH409.sub (List.Sublist.refl _)) ?_
                    refine AN.skipG 11 rfl rfl rfl rfl rfl (by kernel_rfl) (by kernel_rfl) (by kernel_rfl) (hH409.sub (List.Sublist.refl _)) ?_
                    refine AN.take 12 rfl rfl (by kernel_rfl) (by kernel_rfl) (by kernel_rfl) (hH409.sub (List.Sublist.refl _)) (fun w hS => run_pickF rfl (v := B false) rfl) ?_
                    refine AN.take 13 rfl rfl (by kernel_rfl) (by kernel_rfl) (by kernel_rfl) (hH409.sub (List.Sublist.refl _)) (fun w hS => run_move (v := B _) rfl) ?_
                    refine AN.takeG 14 rfl rfl rfl rfl (by kernel_rfl) (by kernel_rfl) (by kernel_rfl) (hH409.sub (List.Sublist.refl _)) (fun w hS => run_ldA (cs := [B _, _]) Tryd.underlying24 rfl rfl e2_405 (rangeAt_cells (hS.blk (i := 5) rfl))) ?_
                    refine AN.takeG 16 rfl rfl rfl rfl (by kernel_rfl) (by kernel_rfl) (by kernel_rfl) (hH409.sub (List.Sublist.refl _)) (fun w hS => run_ldEl Tryd.underlying40 rfl rfl e5_405 (hS.blk (i := 2) rfl)) ?_
                    refine AN.one 15 (by kernel_rfl) ?_
                    refine AO.callP rfl (gsome rfl rfl) rfl hH409 (List.Sublist.refl _) (c_shape_Bottom _  _ (hs.mono hH409.kw) (hT.hp hH409)) (run_call1 Tryd.call12 rfl) ?_
                    intro w437 hH438
                    refine AN.one 17 (by kernel_rfl) ?_
                    refine AO.callP rfl (gsome rfl rfl) rfl hH438 (List.Sublist.refl _) (c_shape_Leq _ _  _) (run_call2 Tryd.call18 rfl rfl) ?_
                    intro w439 hH440
                    refine AN.takeG 18 rfl rfl rfl rfl (by kernel_rfl) (by kernel_rfl) (by kernel_rfl) (hH440.sub (List.Sublist.refl _)) (fun w hS => run_not (bR (c := true) (((e_bot ((fits_spec (nf ‹(!fitsS s.sh a) = false›)).1)).2 a (nf ‹(!fitsS s.sh a) = false›))))) ?_
                    refine AN.take 19 rfl rfl (by kernel_rfl) (by kernel_rfl) (by kernel_rfl) (hH440.sub (List.Sublist.refl _)) (fun w hS => run_pickF rfl (v := B _) rfl) ?_
                    refine AN.take 20 rfl rfl (by kernel_rfl) (by kernel_rfl) (by kernel_rfl) (hH440.sub (List.Sublist.refl _)) (fun w hS => run_move (v := B _) rfl) ?_
                    refine AN.takeG 21 rfl rfl rfl rfl (by kernel_rfl) (by kernel_rfl) (by kernel_rfl) (hH440.sub (List.Sublist.refl _)) (fun w hS => run_ldEl Tryd.underlying40 rfl rfl e5_405 (hS.blk (i := 2) rfl)) ?_
                    refine AN.takeG 22 rfl rfl rfl rfl (by kernel_rfl) (by kernel_rfl) (by kernel_rfl) (hH440.sub (List.Sublist.refl _)) (fun w hS => run_ldA (cs := [B _, _]) Tryd.underlying24 rfl rfl e2_405 (rangeAt_cells (hS.blk (i := 5) rfl))) ?_
                    refine AN.one 23 (by kernel_rfl) ?_
                    refine AO.callP rfl (gsome rfl rfl) rfl hH440 (List.Sublist.refl _) (c_shape_Top _  _ (hs.mono hH440.kw) (hT.hp hH440)) (run_call1 Tryd.call14 rfl) ?_
                    intro w442 hH443
                    refine AN.one 24 (by kernel_rfl) ?_
                    refine AO.callP rfl (gsome rfl rfl) rfl hH443 (List.Sublist.refl _) (c_shape_Leq _ _  _) (run_call2 Tryd.call18 rfl rfl) ?_
                    intro w444 hH445
                    refine AN.takeG 25 rfl rfl rfl rfl (by kernel_rfl) (by kernel_rfl) (by kernel_rfl) (hH445.sub (List.Sublist.refl _)) (fun w hS => run_not (bR (c := true) (((e_top ((fits_spec (nf ‹(!fitsS s.sh a) = false›)).1)).2 a (nf ‹(!fitsS s.sh a) = false›))))) ?_
                    refine AN.take 26 rfl rfl (by kernel_rfl) (by kernel_rfl) (by kernel_rfl) (hH445.sub (List.Sublist.refl _)) (fun w hS => run_pickF rfl (v := B _) rfl) ?_
                    refine AN.done (by kernel_rfl) ?_
                    refine ⟨((((((((((((((((((((((((((((Fr.refl _ _)).u rfl).u rfl).u rfl).u rfl).u rfl).u rfl).u rfl).u rfl).u rfl).u rfl).u rfl).u rfl).u rfl).u rfl).u rfl).u rfl).u rfl).u rfl).u rfl).u rfl).u rfl).u rfl).u rfl).u rfl).u rfl).u rfl).u rfl, ((hH445.sub (List.Sublist.refl _)).perm (List.Perm.refl _)), rfl⟩
                · rintro sg447 w447 fr447 ⟨hH447, e134_447⟩
                  have e2_447 := (fr447 2 rfl).trans e2_405
                  have e4_447 := (fr447 4 rfl).trans e4_405
                  have e5_447 := (fr447 5 rfl).trans e5_405
                  have e6_447 := (fr447 6 rfl).trans e6_405
                  have e7_447 := (fr447 7 rfl).trans e7_405
                  have e8_447 := (fr447 8 rfl).trans e8_405
                  have e9_447 := (fr447 9 rfl).trans e9_405
                  refine CW.condF e134_447 ?_
                  refine CW.skip ?_
                  refine CW.seq ?_
                  refine CW.regionD (by kernel_rfl) hH447 ?_
                  intro w448 hH449
                  refine AN.take 0 rfl rfl (by kernel_rfl) (by kernel_rfl) (by kernel_rfl) (hH449.sub (List.Sublist.refl _)) (fun w hS => run_ldA (cs := [B _, _]) Tryd.underlying24 rfl rfl e2_447 (rangeAt_cells (hS.blk (i := 5) rfl))) ?_
                  refine AN.take 1 rfl rfl (by kernel_rfl) (by kernel_rfl) (by kernel_rfl) (hH449.sub (List.Sublist.refl _)) (fun w hS => run_ldEl Tryd.underlying40 rfl rfl e5_447 (hS.blk (i := 2) rfl)) ?_
                  refine AN.take 2 rfl rfl (by kernel_rfl) (by kernel_rfl) (by kernel_rfl) (hH449.sub (List.Sublist.refl _)) (fun w hS => run_ldA (cs := [B _, _]) Tryd.underlying24 rfl rfl e2_447 (rangeAt_cells (hS.blk (i := 5) rfl))) ?_
                  refine AN.take 3 rfl rfl (by kernel_rfl) (by kernel_rfl) (by kernel_rfl) (hH449.sub (List.Sublist.refl _)) (fun w hS => run_ldEl Tryd.underlying40 rfl rfl e6_447 (hS.blk (i := 3) rfl)) ?_
                  refine AN.take 4 rfl rfl (by kernel_rfl) (by kernel_rfl) (by kernel_rfl) (hH449.sub (List.Sublist.refl _)) (fun w hS => run_ldEl Tryd.underlying40 rfl rfl e7_447 (hS.blk (i := 4) rfl)) ?_
                  refine AN.take 7 rfl rfl (by kernel_rfl) (by kernel_rfl) (by kernel_rfl) (hH449.sub (List.Sublist.refl _)) (fun w hS => run_ldA (cs := [B _, _]) Tryd.underlying24 rfl rfl e2_447 (rangeAt_cells (hS.blk (i := 5) rfl))) ?_
                  refine AN.take 8 rfl rfl (by kernel_rfl) (by kernel_rfl) (by kernel_rfl) (hH449.sub (List.Sublist.refl _)) (fun w hS => run_ldA (cs := [B _, _]) Tryd.underlying24 rfl rfl e2_447 (rangeAt_cells (hS.blk (i := 5) rfl))) ?_
                  refine AN.take 9 rfl rfl (by kernel_rfl) (by kernel_rfl) (by kernel_rfl) (hH449.sub (List.Sublist.refl _)) (fun w hS => run_ldEl Tryd.underlying40 rfl rfl e5_447 (hS.blk (i := 2) rfl)) ?_
                  refine AN.take 10 rfl rfl (by kernel_rfl) (by kernel_rfl) (by kernel_rfl) (hH449.sub (List.Sublist.refl _)) (fun w hS => run_ldEl Tryd.underlying40 rfl rfl e6_447 (hS.blk (i := 3) rfl)) ?_
                  refine AN.take 12 rfl rfl (by kernel_rfl) (by kernel_rfl) (by kernel_rfl) (hH449.sub (List.Sublist.refl _)) (fun w hS => run_ldEl Tryd.underlying40 rfl rfl e7_447 (hS.blk (i := 4) rfl)) ?_
                  refine AN.one 5 (by kernel_rfl) ?_
                  refine AO.callP rfl gnone rfl hH449 (List.Sublist.refl _) (c_shape_Join _ _ _  _ (hs.mono hH449.kw) (hT.hp hH449)) (run_call3 Tryd.call15 rfl rfl rfl) ?_
                  intro w450 hH451
                  refine AN.one 6 (by kernel_rfl) ?_
                  refine AO.callP rfl gnone rfl hH451 (List.Sublist.refl _) (c_shape_Join _ _ _  _ (hs.mono hH451.kw) (hT.hp hH451)) (run_call3 Tryd.call15 rfl rfl rfl) ?_
                  intro w452 hH453
                  refine AN.one 11 (by kernel_rfl) ?_
                  refine AO.callP rfl gnone rfl hH453 (List.Sublist.refl _) (c_shape_Join _ _ _  _ (hs.mono hH453.kw) (hT.hp hH453)) (run_call3 Tryd.call15 rfl rfl rfl) ?_
                  intro w454 hH455
                  refine AN.one 13 (by kernel_rfl) ?_
                  refine AO.callP rfl gnone rfl hH455 (List.Sublist.refl _) (c_shape_Join _ _ _  _ (hs.mono hH455.kw) (hT.hp hH455)) (run_call3 Tryd.call15 rfl rfl rfl) ?_
                  intro w456 hH457
                  refine AN.take 14 rfl rfl (by kernel_rfl) (by kernel_rfl) (by kernel_rfl) (hH457.sub (List.Sublist.refl _)) (fun w hS => run_eqlEl elT_fact rfl rfl) ?_
                  refine AN.take 15 rfl rfl (by kernel_rfl) (by kernel_rfl) (by kernel_rfl) (hH457.sub (List.Sublist.refl _)) (fun w hS => run_move (v := B _) rfl) ?_
                  refine AN.takeG 16 rfl rfl (bT ((e_assoc (nf ‹(!fitsS s.sh a) = false›) (nf ‹(!fitsS s.sh b) = false›) (nf ‹(!fitsS s.sh c) = false›)))) rfl (by kernel_rfl) (by kernel_rfl) (by kernel_rfl) (hH457.sub (List.Sublist.refl _)) (fun w hS => run_ldA (cs := [B _, _]) Tryd.underlying24 rfl rfl e2_447 (rangeAt_cells (hS.blk (i := 5) rfl))) ?_
                  refine AN.takeG 17 rfl rfl (bT ((e_assoc (nf ‹(!fitsS s.sh a) = false›) (nf ‹(!fitsS s.sh b) = false›) (nf ‹(!fitsS s.sh c) = false›)))) rfl (by kernel_rfl) (by kernel_rfl) (by kernel_rfl) (hH457.sub (List.Sublist.refl _)) (fun w hS => run_ldEl Tryd.underlying40 rfl rfl e5_447 (hS.blk (i := 2) rfl)) ?_
                  refine AN.takeG 18 rfl rfl (bT ((e_assoc (nf ‹(!fitsS s.sh a) = false›) (nf ‹(!fitsS s.sh b) = false›) (nf ‹(!fitsS s.sh c) = false›)))) rfl (by kernel_rfl) (by kernel_rfl) (by kernel_rfl) (hH457.sub (List.Sublist.refl _)) (fun w hS => run_ldEl Tryd.underlying40 rfl rfl e9_447 (hS.blk (i := 1) rfl)) ?_
                  refine AN.takeG 20 rfl rfl (bT ((e_assoc (nf ‹(!fitsS s.sh a) = false›) (nf ‹(!fitsS s.sh b) = false›) (nf ‹(!fitsS s.sh c) = false›)))) rfl (by kernel_rfl) (by kernel_rfl) (by kernel_rfl) (hH457.sub (List.Sublist.refl _)) (fun w hS => run_ldEl Tryd.underlying40 rfl rfl e5_447 (hS.blk (i := 2) rfl)) ?_
                  refine AN.one 19 (by kernel_rfl) ?_
                  refine AO.callP rfl (gsome rfl (bT ((e_assoc (nf ‹(!fitsS s.sh a) = false›) (nf ‹(!fitsS s.sh b) = false›) (nf ‹(!fitsS s.sh c) = false›))))) rfl hH457 (List.Sublist.refl _) (c_shape_Join _ _ _  _ (hs.mono hH457.kw) (hT.hp hH457)) (run_call3 Tryd.call15 rfl rfl rfl) ?_
                  intro w459 hH460
                  refine AN.takeG 21 rfl rfl (bT ((e_assoc (nf ‹(!fitsS s.sh a) = false›) (nf ‹(!fitsS s.sh b) = false›) (nf ‹(!fitsS s.sh c) = false›)))) rfl (by kernel_rfl) (by kernel_rfl) (by kernel_rfl) (hH460.sub (List.Sublist.refl _)) (fun w hS => run_eqlEl elT_fact rfl rfl) ?_
                  refine AN.take 22 rfl rfl (by kernel_rfl) (by kernel_rfl) (by kernel_rfl) (hH460.sub (List.Sublist.refl _)) (fun w hS => run_pickT (bT ((e_assoc (nf ‹(!fitsS s.sh a) = false›) (nf ‹(!fitsS s.sh b) = false›) (nf ‹(!fitsS s.sh c) = false›)))) (v := B _) rfl) ?_
                  refine AN.take 23 rfl rfl (by kernel_rfl) (by kernel_rfl) (by kernel_rfl) (hH460.sub (List.Sublist.refl _)) (fun w hS => run_move (v := B _) rfl) ?_
                  refine AN.takeG 24 rfl rfl (bT ((e_jm (nf ‹(!fitsS s.sh a) = false›) (nf ‹(!fitsS s.sh b) = false›)))) rfl (by kernel_rfl) (by kernel_rfl) (by kernel_rfl) (hH460.sub (List.Sublist.refl _)) (fun w hS => run_ldEl Tryd.underlying40 rfl rfl e5_447 (hS.blk (i := 2) rfl)) ?_
                  refine AN.takeG 25 rfl rfl (bT ((e_jm (nf ‹(!fitsS s.sh a) = false›) (nf ‹(!fitsS s.sh b) = false›)))) rfl (by kernel_rfl) (by kernel_rfl) (by kernel_rfl) (hH460.sub (List.Sublist.refl _)) (fun w hS => run_ldEl Tryd.underlying40 rfl rfl e8_447 (hS.blk (i := 0) rfl)) ?_
                  refine AN.takeG 27 rfl rfl (bT ((e_jm (nf ‹(!fitsS s.sh a) = false›) (nf ‹(!fitsS s.sh b) = false›)))) rfl (by kernel_rfl) (by kernel_rfl) (by kernel_rfl) (hH460.sub (List.Sublist.refl _)) (fun w hS => run_ldEl Tryd.underlying40 rfl rfl e5_447 (hS.blk (i := 2) rfl)) ?_
                  refine AN.one 26 (by kernel_rfl) ?_
                  refine AO.callP rfl (gsome rfl (bT ((e_jm (nf ‹(!fitsS s.sh a) = false›) (nf ‹(!fitsS s.sh b) = false›))))) rfl hH460 (List.Sublist.refl _) (c_shape_Meet _ _  _) (run_call2 Tryd.call17 rfl rfl) ?_
                  intro w462 hH463
                  refine AN.takeG 28 rfl rfl (bT ((e_jm (nf ‹(!fitsS s.sh a) = false›) (nf ‹(!fitsS s.sh b) = false›)))) rfl (by kernel_rfl) (by kernel_rfl) (by kernel_rfl) (hH463.sub (List.Sublist.refl _)) (fun w hS => run_eqlEl elT_fact rfl rfl) ?_
                  refine AN.take 29 rfl rfl (by kernel_rfl) (by kernel_rfl) (by kernel_rfl) (hH463.sub (List.Sublist.refl _)) (fun w hS => run_pickT (bT ((e_jm (nf ‹(!fitsS s.sh a) = false›) (nf ‹(!fitsS s.sh b) = false›)))) (v := B _) rfl) ?_
                  refine AN.take 30 rfl rfl (by kernel_rfl) (by kernel_rfl) (by kernel_rfl) (hH463.sub (List.Sublist.refl _)) (fun w hS => run_move (v := B _) rfl) ?_
                  refine AN.one 31 (by kernel_rfl) ?_
                  refine AO.callP rfl (gsome rfl (bT ((e_mj (nf ‹(!fitsS s.sh a) = false›) (nf ‹(!fitsS s.sh b) = false›))))) rfl hH463 (List.Sublist.refl _) (c_clearancelaw07_alive   _ (hT.hp hH463)) (run_call0 Tryd.call7) ?_
                  intro w465 hH466
                  refine AN.take 32 rfl rfl (by kernel_rfl) (by kernel_rfl) (by kernel_rfl) (hH466.sub (List.Sublist.refl _)) (fun w hS => run_pickT (bT ((e_mj (nf ‹(!fitsS s.sh a) = false›) (nf ‹(!fitsS s.sh b) = false›)))) (v := B _) rfl) ?_
                  refine AN.take 33 rfl rfl (by kernel_rfl) (by kernel_rfl) (by kernel_rfl) (hH466.sub (List.Sublist.refl _)) (fun w hS => run_assign (v := B _) rfl) ?_
                  refine AN.done (by kernel_rfl) ?_
                  refine CW.ret ?_
                  refine outP1 Tryd.results5 (congrArg B ?_) hH466.below
                  rfl

end Go.Proofs.YtgmdjomdmfcpnaaDoor.W
