/-
  The walks of the functions that the laws of this seat reach, part 2: each returns what its plain counterpart tells, and turns nothing that was there.
-/
import Derived.Test.YtningfhcklabmaaGreatDoorProg
import Derived.Test.YtningfhcklabmaaGreatDoorEnv
import Derived.Test.YtningfhcklabmaaGreatDoorPlain
import Derived.Test.YtningfhcklabmaaGreatDoorBase
import Derived.Test.YtningfhcklabmaaGreatDoorOrd
import Derived.Test.YtningfhcklabmaaGreatDoorRel
import Derived.Test.YtningfhcklabmaaGreatDoorClo
import Derived.Test.YtningfhcklabmaaGreatDoorCov
import Derived.Test.YtningfhcklabmaaGreatDoorArr
import Derived.Test.YtningfhcklabmaaGreatDoorHas
import Derived.Test.YtningfhcklabmaaGreatDoorGrd
import Derived.Test.YtningfhcklabmaaGreatDoorStr
import Derived.Test.YtningfhcklabmaaGreatDoorVu
import Derived.Test.YtningfhcklabmaaGreatDoorShp
import Derived.Test.YtningfhcklabmaaGreatDoorShl
import Derived.Test.YtningfhcklabmaaGreatDoorShq
import Derived.Test.YtningfhcklabmaaGreatDoorShr
import Derived.Test.YtningfhcklabmaaGreatDoorCut
import Derived.Test.YtningfhcklabmaaGreatDoorRec
import Derived.Test.YtningfhcklabmaaGreatDoorOut
import Derived.Test.YtningfhcklabmaaGreatDoorScp
import Derived.Test.YtningfhcklabmaaGreatDoorScq
import Derived.Test.YtningfhcklabmaaGreatDoorByt
import Derived.Test.YtningfhcklabmaaGreatDoorNod
import Derived.Test.YtningfhcklabmaaGreatDoorSpl
import Derived.Test.YtningfhcklabmaaGreatDoorSpb
import Derived.Test.YtningfhcklabmaaGreatDoorSpt
import Derived.Test.YtningfhcklabmaaGreatDoorSpn
import Derived.Test.YtningfhcklabmaaGreatDoorSpx
import Derived.Test.YtningfhcklabmaaGreatDoorSpy
import Derived.Test.YtningfhcklabmaaGreatDoorMin
import Derived.Test.YtningfhcklabmaaGreatDoorSpellSoundPacesA
namespace Go.Proofs.YtningfhcklabmaaGreatDoor.W
open Go Go.RowKit Go.Proofs.YtningfhcklabmaaGreatDoor.E Go.Proofs.YtningfhcklabmaaGreatDoor.M
set_option linter.unusedVariables false
set_option linter.unusedSimpArgs false
set_option maxRecDepth 100000
open Tryz

theorem c_name_place (n : Int) (f : FuncId) (cs : List Value) (P : Int → Bool) (hn : 0 ≤ n ∧ n ≤ 9223372036854775807) (w : World) (hf : ∀ args w, (callFunc f args).run Tryz.prog w = .ok (.enter f args) w) (go : ∀ i w', Below w.heap.size w w' → 0 ≤ i → i < n → Calls Tryz.prog f (I i :: cs).toArray w' (Pure (B (P i)) w')) : Calls Tryz.prog 121 #[I 0, I n, .func (.func f) #[] cs.toArray] w (Pure (I (findV P n)) w) := by
 refine enter Tryz.func121 rfl Tryz.ntmps121 rfl ?_
 have hH := Hp.start w
 refine SR ?_
 refine V (aV (I 0) rfl) ?_
 refine RL.nil ?_
 refine CW.seq ?_
 refine SR ?_
 refine V (mV (I _) rfl) ?_
 refine V (aV (I _) rfl) ?_
 refine RL.nil ?_
 refine CW.block ?_
 refine CW.loop (G := (Int)) (fun (k : Int) s' w' => (Fr [6, 7, 9, 10, 11, 12, 13, 14, 15, 16, 17] _ s') ∧ (Hp w w' _) ∧ (s' 7 = I k) ∧ (0 ≤ k) ∧ (k ≤ n) ∧ (∀ j : Int, 0 ≤ j → j < k → P j = false)) (fun (k : Int) => (n - k).toNat) (0) ⟨Fr.refl _ _, hH, rfl, (by omega), (by omega), fun j a b => absurd b (by omega)⟩ ?_
 rintro k sg1 w1 ⟨fr1, hH1, e7_1, h0, hk, hg⟩
 have e1_1 : sg1 1 = I _ := (fr1 1 rfl).trans rfl
 have e2_1 : sg1 2 = .func _ _ _ := (fr1 2 rfl).trans rfl
 refine CW.seq ?_
 refine SR ?_
 refine V (run_move e7_1) ?_
 refine V (run_move e1_1) ?_
 refine V (run_lss rfl rfl) ?_
 refine RL.nil ?_
 refine CW.condP rfl (fun h3 => ?_) (fun h3 => ?_)
 ·refine CW.skip ?_
  refine CW.seq ?_
  refine CW.block ?_
  refine SR ?_
  refine V (run_move e2_1) ?_
  refine V (run_move e7_1) ?_
  refine RL.callP rfl hH1 (go _ _ hH1.below (by omega) (by omega)) (run_callC1 hf (cs := cs) rfl rfl) ?_
  intro w4 hH5
  refine RL.nil ?_
  refine CW.cond rfl (fun h7 => ?_) (fun h7 => ?_)
  ·refine SR ?_
   refine V (run_move e7_1) ?_
   refine V (aV (I _) rfl) ?_
   refine RL.nil ?_
   refine CW.ret ?_
   refine outP1 Tryz.results121 (congrArg I ?_) hH5.below
   first | exact (find_yes h0 ‹_› ‹_› hg).symm | exact (find_no fun j a b => hg j a (by omega)).symm
  ·refine CW.skip ?_
   refine CW.region ?_
   refine V (run_move e7_1) ?_
   refine V (run_add rfl rfl (by omega)) ?_
   refine V (aV (I _) rfl) ?_
   refine RL.nil ?_
   refine ⟨k + 1, ?_, fr1.u4.u4.u1, hH5, (congrArg I (by first | rfl | omega)), ?_, ?_, ?_⟩
   ·((try dsimp only); omega)
   ·omega
   ·omega
   ·exact fun j a b => if e : j = k then e ▸ ‹P k = false› else hg j a (by omega)
 ·refine CW.exit (id := 0) rfl ?_
  refine SR ?_
  refine V (aV (I (-1)) rfl) ?_
  refine RL.nil ?_
  refine CW.ret ?_
  refine outP1 Tryz.results121 (congrArg I ?_) hH1.below
  first | exact (find_yes h0 ‹_› ‹_› hg).symm | exact (find_no fun j a b => hg j a (by omega)).symm

theorem c_name_Find_1 (b c : Nat) (v : Value) (l : List Tx) (s : Tx) (i : Int) (hi : 0 ≤ i ∧ i < l.length) (w : World) (hs : Sl w v 1 l.length (txL l)) (hb : w.heap[b]? = some (.cells #[v] 45 (0, 0))) (hc : w.heap[c]? = some (.cells #[S s] 9 (0, 0))) : Calls Tryz.prog 122 #[I i, .pointer (some ⟨b, 0, none⟩), .pointer (some ⟨c, 0, none⟩)] w (Pure (B (decide (l.getD i.toNat tx0 = s))) w) := by
 have hm := hs.small
 unfold maxLen at hm
 refine enter Tryz.func122 rfl Tryz.ntmps122 rfl ?_
 have hH := Hp.start w
 refine SR ?_
 refine V (aV (B false) rfl) ?_
 refine RL.nil ?_
 refine CW.seq ?_
 refine CW.regionD (by kernel_rfl) hH ?_
 intro w1 hH2
 refine AT 0 rfl (hH2.sub sR) (fun w hS => run_ld underlying45 rfl rfl (hS.extCell hb rfl)) ?_
 refine AT 1 rfl (hH2.sub sR) (fun w hS => mV (I _) rfl) ?_
 refine AT 2 rfl (hH2.sub sR) (fun w hS => run_indexAddrS (hs.hp hS) underlying45 sizeOf9 rfl rfl (by omega)) ?_
 refine AT 3 rfl (hH2.sub sR) (fun w hS => run_ld underlying9 rfl rfl ((hs.hp hS).cell _ _ (txL_at (by omega)))) ?_
 refine AT 4 rfl (hH2.sub sR) (fun w hS => run_ld underlying9 rfl rfl (hS.extCell hc (v := .string _) rfl)) ?_
 refine AT 5 rfl (hH2.sub sR) (fun w hS => run_eqlS rfl rfl) ?_
 refine AT 6 rfl (hH2.sub sR) (fun w hS => aV (B _) rfl) ?_
 refine AD ?_
 refine CW.ret ?_
 refine outP1 Tryz.results122 (congrArg B ?_) hH2.below
 rfl

theorem c_name_Find (v : Value) (l : List Tx) (s : Tx) (w : World) (hs : Sl w v 1 l.length (txL l)) : Calls Tryz.prog 87 #[v, S s] w (Pure (I (nfind l s)) w) := by
 have hm := hs.small
 unfold maxLen at hm
 refine enter Tryz.func87 rfl Tryz.ntmps87 rfl ?_
 have hH := Hp.start w
 refine SR ?_
 refine RL.new rfl hH (f := fun b => (.pointer (some ⟨b, 0, none⟩))) (run_box (by conv => lhs; whnf)) ?_
 intro b3 w1 hH2
 rw [(one_sl hs).2] at hH2
 refine RL.new rfl hH2 (f := fun b => (.pointer (some ⟨b, 0, none⟩))) (run_box (v := .string _) rfl) ?_
 intro b6 w4 hH5
 refine V (aV (I 0) rfl) ?_
 refine RL.nil ?_
 refine SR ?_
 refine V (run_ld underlying45 rfl rfl (hH5.cell (i := 1) rfl rfl)) ?_
 refine V (run_lenSl (hs.hp hH5) rfl underlying45 rfl) ?_
 refine V (run_mkF2 (by conv => lhs; whnf) (by conv => lhs; whnf)) ?_
 refine RL.callP rfl hH5 (c_name_place _ 122 [.pointer (some ⟨b3, 0, none⟩), .pointer (some ⟨b6, 0, none⟩)] (fun i => decide (l.getD i.toNat tx0 = s)) (by omega) _ call122 (fun i w h h0 h1 => c_name_Find_1 b3 b6 v l s i ⟨h0, h1⟩ w ((hs.hp hH5).below h) (keep h (hH5.blk (i := 1) rfl)) (keep h (hH5.blk (i := 0) rfl)))) (run_call3 call121 (show _ = I 0 from rfl) rfl rfl) ?_
 intro w7 hH8
 refine V (aV (I _) rfl) ?_
 refine RL.nil ?_
 refine CW.ret ?_
 refine outP1 Tryz.results87 (congrArg I ?_) hH8.below
 rfl

theorem c_name_Twice_1 (b : Nat) (v : Value) (l : List Tx) (i : Int) (hi : 0 ≤ i ∧ i < l.length) (w : World) (hs : Sl w v 1 l.length (txL l)) (hb : w.heap[b]? = some (.cells #[v] 45 (0, 0))) : Calls Tryz.prog 136 #[I i, .pointer (some ⟨b, 0, none⟩)] w (Pure (B (decide (nfind l (l.getD i.toNat tx0) < i))) w) := by
 have hm := hs.small
 unfold maxLen at hm
 refine enter Tryz.func136 rfl Tryz.ntmps136 rfl ?_
 have hH := Hp.start w
 refine SR ?_
 refine V (aV (B false) rfl) ?_
 refine RL.nil ?_
 refine CW.seq ?_
 refine CW.regionD (by kernel_rfl) hH ?_
 intro w1 hH2
 refine AT 0 rfl (hH2.sub sR) (fun w hS => run_ld underlying45 rfl rfl (hS.extCell hb rfl)) ?_
 refine AT 1 rfl (hH2.sub sR) (fun w hS => mV (I _) rfl) ?_
 refine AT 3 rfl (hH2.sub sR) (fun w hS => run_ld underlying45 rfl rfl (hS.extCell hb rfl)) ?_
 refine AT 4 rfl (hH2.sub sR) (fun w hS => mV (I _) rfl) ?_
 refine AT 5 rfl (hH2.sub sR) (fun w hS => run_indexAddrS (hs.hp hS) underlying45 sizeOf9 rfl rfl (by omega)) ?_
 refine AT 6 rfl (hH2.sub sR) (fun w hS => run_ld underlying9 rfl rfl ((hs.hp hS).cell _ _ (txL_at (by omega)))) ?_
 refine A1 2 ?_
 refine AO.read rfl gnone rfl hH2 sR (run_cut (hs.hp hH2) underlying45 sizeOf9 rfl rfl (by omega)) ?_
 refine A1 7 ?_
 refine AO.callP rfl gnone rfl hH2 sR (c_name_Find _ _ _  _ ((hs.hp hH2).cutT (by omega))) (run_call2 call87 rfl rfl) ?_
 intro w5 hH6
 refine AT 8 rfl (hH6.sub sR) (fun w hS => run_geq rfl rfl) ?_
 refine AT 9 rfl (hH6.sub sR) (fun w hS => aV (B _) rfl) ?_
 refine AD ?_
 refine CW.ret ?_
 refine outP1 Tryz.results136 (congrArg B ?_) hH6.below
 exact tx_ahead hi.1 hi.2

theorem c_name_Twice (v : Value) (l : List Tx) (w : World) (hs : Sl w v 1 l.length (txL l)) : Calls Tryz.prog 113 #[v] w (Pure (I (twice l)) w) := by
 have hm := hs.small
 unfold maxLen at hm
 refine enter Tryz.func113 rfl Tryz.ntmps113 rfl ?_
 have hH := Hp.start w
 refine SR ?_
 refine RL.new rfl hH (f := fun b => (.pointer (some ⟨b, 0, none⟩))) (run_box (by conv => lhs; whnf)) ?_
 intro b3 w1 hH2
 rw [(one_sl hs).2] at hH2
 refine V (aV (I 0) rfl) ?_
 refine RL.nil ?_
 refine SR ?_
 refine V (run_ld underlying45 rfl rfl (hH2.cell (i := 0) rfl rfl)) ?_
 refine V (run_lenSl (hs.hp hH2) rfl underlying45 rfl) ?_
 refine V (run_mkF1 (by conv => lhs; whnf)) ?_
 refine RL.callP rfl hH2 (c_name_place _ 136 [.pointer (some ⟨b3, 0, none⟩)] (fun i => decide (nfind l (l.getD i.toNat tx0) < i)) (by omega) _ call136 (fun i w h h0 h1 => c_name_Twice_1 b3 v l i ⟨h0, h1⟩ w ((hs.hp hH2).below h) (keep h (hH2.blk (i := 0) rfl)))) (run_call3 call121 (show _ = I 0 from rfl) rfl rfl) ?_
 intro w4 hH5
 refine V (aV (I _) rfl) ?_
 refine RL.nil ?_
 refine CW.ret ?_
 refine outP1 Tryz.results113 (congrArg I ?_) hH5.below
 rfl

theorem c_clearanceref02_Find (v : Value) (l : List Tx) (s : Tx) (w : World) (hs : Sl w v 1 l.length (txL l)) : Calls Tryz.prog 49 #[v, S s] w (Pure (I (nfind l s)) w) := by
 have hm := hs.small
 unfold maxLen at hm
 refine enter Tryz.func49 rfl Tryz.ntmps49 rfl ?_
 have hH := Hp.start w
 refine SR ?_
 refine V (aV (I 0) rfl) ?_
 refine RL.nil ?_
 refine CW.seq ?_
 refine SR ?_
 refine V (aV (I 0) rfl) ?_
 refine RL.nil ?_
 refine CW.block ?_
 refine CW.loop (G := (Int)) (fun (k : Int) s' w' => (Fr [4, 5, 6, 7, 8, 9, 10, 11, 12, 13, 14, 15, 16, 17, 18] _ s') ∧ (Hp w w' _) ∧ (s' 5 = I k) ∧ (0 ≤ k) ∧ (k ≤ l.length) ∧ (∀ j : Int, 0 ≤ j → j < k → decide (l.getD j.toNat tx0 = s) = false)) (fun (k : Int) => (l.length - k).toNat) (0) ⟨Fr.refl _ _, hH, rfl, (by omega), (by omega), fun j a b => absurd b (by omega)⟩ ?_
 rintro k sg1 w1 ⟨fr1, hH1, e5_1, h0, hk, hg⟩
 have e0_1 := (fr1 0 rfl).trans (by conv => lhs; whnf)
 have e1_1 : sg1 1 = .string _ := (fr1 1 rfl).trans rfl
 refine CW.seq ?_
 refine SR ?_
 refine V (run_move e5_1) ?_
 refine V (run_move e0_1) ?_
 refine V (run_lenSl (hs.hp hH1) rfl underlying45 rfl) ?_
 refine V (run_lss rfl rfl) ?_
 refine RL.nil ?_
 refine CW.condP rfl (fun h3 => ?_) (fun h3 => ?_)
 ·refine CW.skip ?_
  refine CW.seq ?_
  refine CW.block ?_
  refine SR ?_
  refine V (run_move e0_1) ?_
  refine V (run_move e5_1) ?_
  refine V (run_indexAddrS (hs.hp hH1) underlying45 sizeOf9 rfl rfl (by omega)) ?_
  refine V (run_ld underlying9 rfl rfl ((hs.hp hH1).cell _ _ (txL_at (by omega)))) ?_
  refine V (run_move e1_1) ?_
  refine V (run_eqlS rfl rfl) ?_
  refine RL.nil ?_
  refine CW.condP rfl (fun h5 => ?_) (fun h5 => ?_)
  ·refine SR ?_
   refine V (run_move e5_1) ?_
   refine V (aV (I _) rfl) ?_
   refine RL.nil ?_
   refine CW.ret ?_
   refine outP1 Tryz.results49 (congrArg I ?_) hH1.below
   first | exact (find_yes h0 ‹_› (decide_eq_true ‹_›) hg).symm | exact (find_no fun j a b => hg j a (by omega)).symm
  ·refine CW.skip ?_
   refine CW.region ?_
   refine V (run_move e5_1) ?_
   refine V (run_add rfl rfl (by omega)) ?_
   refine V (aV (I _) rfl) ?_
   refine RL.nil ?_
   refine ⟨k + 1, ?_, fr1.u4.u4.u4.u1, hH1, (congrArg I (by first | rfl | omega)), ?_, ?_, ?_⟩
   ·((try dsimp only); omega)
   ·omega
   ·omega
   ·exact fun j a b => if e : j = k then e ▸ decide_eq_false ‹_› else hg j a (by omega)
 ·refine CW.exit (id := 0) rfl ?_
  refine SR ?_
  refine V (aV (I (-1)) rfl) ?_
  refine RL.nil ?_
  refine CW.ret ?_
  refine outP1 Tryz.results49 (congrArg I ?_) hH1.below
  first | exact (find_yes h0 ‹_› (decide_eq_true ‹_›) hg).symm | exact (find_no fun j a b => hg j a (by omega)).symm

theorem c_clearanceref02_Twice (v : Value) (l : List Tx) (w : World) (hs : Sl w v 1 l.length (txL l)) : Calls Tryz.prog 72 #[v] w (Pure (I (twice l)) w) := by
 have hm := hs.small
 unfold maxLen at hm
 refine enter Tryz.func72 rfl Tryz.ntmps72 rfl ?_
 have hH := Hp.start w
 refine SR ?_
 refine V (aV (I 0) rfl) ?_
 refine RL.nil ?_
 refine CW.seq ?_
 refine SR ?_
 refine V (aV (I 0) rfl) ?_
 refine RL.nil ?_
 refine CW.block ?_
 refine CW.loop (G := (Int)) (fun (k : Int) s' w' => (Fr [2, 3, 4, 5, 6, 7, 8, 9, 10, 11, 12, 13, 14, 15, 16, 17, 18] _ s') ∧ (Hp w w' _) ∧ (s' 3 = I k) ∧ (0 ≤ k) ∧ (k ≤ l.length) ∧ (∀ j : Int, 0 ≤ j → j < k → decide (nfind l (l.getD j.toNat tx0) < j) = false)) (fun (k : Int) => (l.length - k).toNat) (0) ⟨Fr.refl _ _, hH, rfl, (by omega), (by omega), fun j a b => absurd b (by omega)⟩ ?_
 rintro k sg1 w1 ⟨fr1, hH1, e3_1, h0, hk, hg⟩
 have e0_1 := (fr1 0 rfl).trans (by conv => lhs; whnf)
 refine CW.seq ?_
 refine SR ?_
 refine V (run_move e3_1) ?_
 refine V (run_move e0_1) ?_
 refine V (run_lenSl (hs.hp hH1) rfl underlying45 rfl) ?_
 refine V (run_lss rfl rfl) ?_
 refine RL.nil ?_
 refine CW.condP rfl (fun h3 => ?_) (fun h3 => ?_)
 ·refine CW.skip ?_
  refine CW.seq ?_
  refine CW.block ?_
  refine SR ?_
  refine V (run_move e0_1) ?_
  refine V (run_move e0_1) ?_
  refine V (run_move e3_1) ?_
  refine V (run_indexAddrS (hs.hp hH1) underlying45 sizeOf9 rfl rfl (by omega)) ?_
  refine V (run_ld underlying9 rfl rfl ((hs.hp hH1).cell _ _ (txL_at (by omega)))) ?_
  refine RL.callP rfl hH1 (c_clearanceref02_Find _ _ _  _ (hs.hp hH1)) (run_call2 call49 rfl rfl) ?_
  intro w4 hH5
  refine V (run_move e3_1) ?_
  refine V (run_lss rfl rfl) ?_
  refine RL.nil ?_
  refine CW.condP rfl (fun h7 => ?_) (fun h7 => ?_)
  ·refine SR ?_
   refine V (run_move e3_1) ?_
   refine V (aV (I _) rfl) ?_
   refine RL.nil ?_
   refine CW.ret ?_
   refine outP1 Tryz.results72 (congrArg I ?_) hH5.below
   first | exact (find_yes h0 ‹_› (decide_eq_true ‹_›) hg).symm | exact (find_no fun j a b => hg j a (by omega)).symm
  ·refine CW.skip ?_
   refine CW.region ?_
   refine V (run_move e3_1) ?_
   refine V (run_add rfl rfl (by omega)) ?_
   refine V (aV (I _) rfl) ?_
   refine RL.nil ?_
   refine ⟨k + 1, ?_, fr1.u4.u4.u4.u1.u1.u1, hH5, (congrArg I (by first | rfl | omega)), ?_, ?_, ?_⟩
   ·((try dsimp only); omega)
   ·omega
   ·omega
   ·exact fun j a b => if e : j = k then e ▸ decide_eq_false ‹_› else hg j a (by omega)
 ·refine CW.exit (id := 0) rfl ?_
  refine SR ?_
  refine V (aV (I (-1)) rfl) ?_
  refine RL.nil ?_
  refine CW.ret ?_
  refine outP1 Tryz.results72 (congrArg I ?_) hH1.below
  first | exact (find_yes h0 ‹_› (decide_eq_true ‹_›) hg).symm | exact (find_no fun j a b => hg j a (by omega)).symm

theorem c_shape_named (v : Value) (l : List Tx) (w : World) (hs : Sl w v 1 l.length (txL l)) : Calls Tryz.prog 82 #[v] w (Pure (B (namedF l)) w) := by
 have hm := hs.small
 unfold maxLen at hm
 refine enter Tryz.func82 rfl Tryz.ntmps82 rfl ?_
 have hH := Hp.start w
 refine SR ?_
 refine V (aV (B false) rfl) ?_
 refine RL.nil ?_
 refine CW.seq ?_
 refine SR ?_
 refine V (run_move (by conv => lhs; whnf)) ?_
 refine V (run_lenSl (hs.hp hH) rfl underlying45 rfl) ?_
 refine V (run_lss rfl rfl) ?_
 refine V (mV (B _) rfl) ?_
 refine RL.splitP (dj := 8) rfl (fun h2 => ?_) (fun h2 => ?_)
 ·refine RL.gF rfl rfl (bT h2) rfl ?_
  refine RL.gF rfl rfl (bT h2) rfl ?_
  refine RL.gF rfl rfl (bT h2) rfl ?_
  refine V (run_pickT (bT h2) (v := B true) rfl) ?_
  refine V (mV (B _) rfl) ?_
  refine RL.gF rfl rfl rfl rfl ?_
  refine RL.gF rfl rfl rfl rfl ?_
  refine RL.gF rfl rfl rfl rfl ?_
  refine V (run_pickT rfl (v := B true) rfl) ?_
  refine RL.nil ?_
  refine CW.condT rfl ?_
  refine SR ?_
  refine V (aV (B false) rfl) ?_
  refine RL.nil ?_
  refine CW.ret ?_
  refine outP1 Tryz.results82 (congrArg B ?_) hH.below
  first | exact (named_no3 h0 ‹_› (nt ‹_›)).symm | exact (named_yes hn1 hn2 ‹_› hg).symm | exact (named_no1 (by omega)).symm | exact (named_no2 (by omega)).symm
 ·refine RL.gT rfl (bF h2) ?_
  refine V (run_move (by conv => lhs; whnf)) ?_
  refine RL.gT rfl (bF h2) ?_
  refine V (run_lenSl (hs.hp hH) rfl underlying45 rfl) ?_
  refine RL.gT rfl (bF h2) ?_
  refine V (run_gtr rfl rfl) ?_
  refine V (run_pickF (bF h2) (v := B _) rfl) ?_
  refine V (mV (B _) rfl) ?_
  refine RL.splitP (dj := 13) rfl (fun h4 => ?_) (fun h4 => ?_)
  ·refine RL.gF rfl rfl (bT h4) rfl ?_
   refine RL.gF rfl rfl (bT h4) rfl ?_
   refine RL.gF rfl rfl (bT h4) rfl ?_
   refine V (run_pickT (bT h4) (v := B true) rfl) ?_
   refine RL.nil ?_
   refine CW.condT rfl ?_
   refine SR ?_
   refine V (aV (B false) rfl) ?_
   refine RL.nil ?_
   refine CW.ret ?_
   refine outP1 Tryz.results82 (congrArg B ?_) hH.below
   first | exact (named_no3 h0 ‹_› (nt ‹_›)).symm | exact (named_yes hn1 hn2 ‹_› hg).symm | exact (named_no1 (by omega)).symm | exact (named_no2 (by omega)).symm
  ·refine RL.gT rfl (bF h4) ?_
   refine V (run_move (by conv => lhs; whnf)) ?_
   refine RL.gT rfl (bF h4) ?_
   refine RL.callP rfl hH (c_name_Twice _ _  _ (hs.hp hH)) (run_call1 call113 rfl) ?_
   intro w5 hH6
   refine RL.gT rfl (bF h4) ?_
   refine V (run_geq rfl rfl) ?_
   refine V (run_pickF (bF h4) (v := B _) rfl) ?_
   refine RL.nil ?_
   refine CW.condP rfl (fun h8 => ?_) (fun h8 => ?_)
   ·refine SR ?_
    refine V (aV (B false) rfl) ?_
    refine RL.nil ?_
    refine CW.ret ?_
    refine outP1 Tryz.results82 (congrArg B ?_) hH6.below
    first | exact (named_no3 h0 ‹_› (nt ‹_›)).symm | exact (named_yes hn1 hn2 ‹_› hg).symm | exact (named_no1 (by omega)).symm | exact (named_no2 (by omega)).symm
   ·refine CW.skip ?_
    refine CW.seq ?_
    refine SR ?_
    refine V (run_move (by conv => lhs; whnf)) ?_
    refine V (run_lenSl (hs.hp hH6) rfl underlying45 rfl) ?_
    refine V (mV (I 0) rfl) ?_
    refine RL.nil ?_
    refine CW.block ?_
    have hn1 : 1 ≤ l.length ∧ l.length ≤ 64 := by omega
    have hn2 : twice l < 0 := by omega
    refine CW.loop (G := (Int)) (fun (k : Int) s' w' => (Fr [2, 4, 20, 21, 22, 23, 24, 25, 26, 27] _ s') ∧ (Hp w w' _) ∧ (s' 20 = I k) ∧ (0 ≤ k) ∧ (k ≤ l.length) ∧ (∀ j : Int, 0 ≤ j → j < k → nameR (l.getD j.toNat tx0) = true)) (fun (k : Int) => (l.length - k).toNat) (0) ⟨Fr.refl _ _, hH6, rfl, (by omega), (by omega), fun j a b => absurd b (by omega)⟩ ?_
    rintro k sg9 w9 ⟨fr9, hH9, e20_9, h0, hk, hg⟩
    have e18_9 := (fr9 18 rfl).trans (by conv => lhs; whnf)
    have e19_9 : sg9 19 = I _ := (fr9 19 rfl).trans rfl
    refine SR ?_
    refine V (run_lss e20_9 e19_9) ?_
    refine RL.nil ?_
    refine CW.seq ?_
    refine CW.condP rfl (fun h11 => ?_) (fun h11 => ?_)
    ·refine CW.skip ?_
     refine CW.seq ?_
     refine CW.block ?_
     refine SR ?_
     refine V (run_indexAddrS (hs.hp hH9) underlying45 sizeOf9 e18_9 e20_9 (by omega)) ?_
     refine V (run_ld underlying9 rfl rfl ((hs.hp hH9).cell _ _ (txL_at (by omega)))) ?_
     refine V (aV (.string _) rfl) ?_
     refine RL.nil ?_
     refine SR ?_
     refine V (mV (.string _) rfl) ?_
     refine RL.callP rfl hH9 (c_name_Right _  _) (run_call1 call86 rfl) ?_
     intro w12 hH13
     refine V (run_not rfl) ?_
     refine RL.nil ?_
     refine CW.cond rfl (fun h16 => ?_) (fun h16 => ?_)
     ·refine SR ?_
      refine V (aV (B false) rfl) ?_
      refine RL.nil ?_
      refine CW.ret ?_
      refine outP1 Tryz.results82 (congrArg B ?_) hH13.below
      first | exact (named_no3 h0 ‹_› (nt ‹_›)).symm | exact (named_yes hn1 hn2 ‹_› hg).symm | exact (named_no1 (by omega)).symm | exact (named_no2 (by omega)).symm
     ·refine CW.skip ?_
      refine CW.region ?_
      refine V (run_add e20_9 rfl (by omega)) ?_
      refine V (mV (I _) rfl) ?_
      refine RL.nil ?_
      refine ⟨k + 1, ?_, fr9.u4.u4.u1, hH13, (congrArg I (by first | rfl | omega)), ?_, ?_, ?_⟩
      ·((try dsimp only); omega)
      ·omega
      ·omega
      ·exact fun j a b => if e : j = k then e ▸ nf ‹_› else hg j a (by omega)
    ·refine CW.exit (id := 0) rfl ?_
     refine SR ?_
     refine V (aV (B true) rfl) ?_
     refine RL.nil ?_
     refine CW.ret ?_
     refine outP1 Tryz.results82 (congrArg B ?_) hH9.below
     first | exact (named_no3 h0 ‹_› (nt ‹_›)).symm | exact (named_yes hn1 hn2 ‹_› hg).symm | exact (named_no1 (by omega)).symm | exact (named_no2 (by omega)).symm

theorem c_shape_factor (f : Fac) (w : World) (hf : FacV (Kw w) f) (hT : Tab w) : Calls Tryz.prog 36 #[.agg (facC f)] w (Pure (B (factorR f.fc)) w) := by
 have hm := hf.names.sl.small
 unfold maxLen at hm
 refine enter Tryz.func36 rfl Tryz.ntmps36 rfl ?_
 have hH := Hp.start w
 refine SR ?_
 refine RL.new rfl hH (f := fun b => (.pointer (some ⟨b, 0, none⟩))) (run_box (v := .agg _) rfl) ?_
 intro b3 w1 hH2
 refine V (aV (B false) rfl) ?_
 refine RL.nil ?_
 refine CW.seq ?_
 refine SR ?_
 refine V (fA underlying50 1 rfl sizeOf45 rfl) ?_
 refine V (run_ld underlying45 rfl rfl (hH2.cell (i := 0) rfl rfl)) ?_
 refine RL.callP rfl hH2 (c_shape_named _ _  _ (hf.names.sl.hp hH2)) (run_call1 call82 rfl) ?_
 intro w4 hH5
 refine V (run_not rfl) ?_
 refine RL.nil ?_
 refine CW.cond rfl (fun h8 => ?_) (fun h8 => ?_)
 ·refine SR ?_
  refine V (aV (B false) rfl) ?_
  refine RL.nil ?_
  refine CW.ret ?_
  refine outP1 Tryz.results36 (congrArg B ?_) hH5.below
  first | exact (fac_no (f := f.fc) (nt ‹_›)).symm | exact (fac_12s (f := f.fc) (nf ‹(!namedF f.names) = false›) (.inl ‹_›)).symm | exact (fac_12s (f := f.fc) (nf ‹(!namedF f.names) = false›) (.inr ‹_›)).symm | exact (fac_3y (f := f.fc) (nf ‹(!namedF f.names) = false›) ‹_› ‹_›).symm | exact (fac_3n (f := f.fc) ‹_› ‹_›).symm | exact (fac_4y (f := f.fc) (nf ‹(!namedF f.names) = false›) ‹_› ‹_›).symm | exact (fac_4n (f := f.fc) ‹_› ‹_›).symm | exact (fac_x (f := f.fc) ‹_› ‹_› ‹_› ‹_›).symm
 ·refine CW.skip ?_
  refine CW.seq ?_
  refine SR ?_
  refine V (fA underlying50 0 rfl sizeOf3 rfl) ?_
  refine V (run_ld underlying3 rfl rfl (hH5.cell (i := 0) rfl (v := I _) rfl)) ?_
  refine RL.nil ?_
  refine CW.block ?_
  refine CW.seq ?_
  refine SR ?_
  refine V (run_eql rfl rfl) ?_
  refine V (aV (B _) rfl) ?_
  refine RL.nil ?_
  refine CW.condP rfl (fun h10 => ?_) (fun h10 => ?_)
  ·refine CW.skip ?_
   refine CW.condT (bT h10) ?_
   refine SR ?_
   refine V (fA underlying50 2 rfl sizeOf48 rfl) ?_
   refine V (run_ldBR underlying48 rfl rfl rfl (hH5.blk (i := 0) rfl)) ?_
   refine V (run_bld (vs := []) rfl built_rel0) ?_
   refine RL.callP rfl hH5 (c_relate_Same _ _  _) (run_call2 call83 rfl rfl) ?_
   intro w11 hH12
   refine V (aV (B _) rfl) ?_
   refine RL.nil ?_
   refine CW.ret ?_
   refine outP1 Tryz.results36 (congrArg B ?_) hH12.below
   first | exact (fac_no (f := f.fc) (nt ‹_›)).symm | exact (fac_12s (f := f.fc) (nf ‹(!namedF f.names) = false›) (.inl ‹_›)).symm | exact (fac_12s (f := f.fc) (nf ‹(!namedF f.names) = false›) (.inr ‹_›)).symm | exact (fac_3y (f := f.fc) (nf ‹(!namedF f.names) = false›) ‹_› ‹_›).symm | exact (fac_3n (f := f.fc) ‹_› ‹_›).symm | exact (fac_4y (f := f.fc) (nf ‹(!namedF f.names) = false›) ‹_› ‹_›).symm | exact (fac_4n (f := f.fc) ‹_› ‹_›).symm | exact (fac_x (f := f.fc) ‹_› ‹_› ‹_› ‹_›).symm
  ·refine CW.region ?_
   refine V (run_eql rfl rfl) ?_
   refine V (aV (B _) rfl) ?_
   refine RL.nil ?_
   refine CW.condP rfl (fun h16 => ?_) (fun h16 => ?_)
   ·refine SR ?_
    refine V (fA underlying50 2 rfl sizeOf48 rfl) ?_
    refine V (run_ldBR underlying48 rfl rfl rfl (hH5.blk (i := 0) rfl)) ?_
    refine V (run_bld (vs := []) rfl built_rel0) ?_
    refine RL.callP rfl hH5 (c_relate_Same _ _  _) (run_call2 call83 rfl rfl) ?_
    intro w17 hH18
    refine V (aV (B _) rfl) ?_
    refine RL.nil ?_
    refine CW.ret ?_
    refine outP1 Tryz.results36 (congrArg B ?_) hH18.below
    first | exact (fac_no (f := f.fc) (nt ‹_›)).symm | exact (fac_12s (f := f.fc) (nf ‹(!namedF f.names) = false›) (.inl ‹_›)).symm | exact (fac_12s (f := f.fc) (nf ‹(!namedF f.names) = false›) (.inr ‹_›)).symm | exact (fac_3y (f := f.fc) (nf ‹(!namedF f.names) = false›) ‹_› ‹_›).symm | exact (fac_3n (f := f.fc) ‹_› ‹_›).symm | exact (fac_4y (f := f.fc) (nf ‹(!namedF f.names) = false›) ‹_› ‹_›).symm | exact (fac_4n (f := f.fc) ‹_› ‹_›).symm | exact (fac_x (f := f.fc) ‹_› ‹_› ‹_› ‹_›).symm
   ·refine SR ?_
    refine V (run_eql rfl rfl) ?_
    refine V (aV (B _) rfl) ?_
    refine RL.nil ?_
    refine CW.condP rfl (fun h22 => ?_) (fun h22 => ?_)
    ·refine SR ?_
     refine V (fA underlying50 2 rfl sizeOf48 rfl) ?_
     refine V (fA underlying48 0 rfl sizeOf3 rfl) ?_
     refine V (run_ld underlying3 rfl rfl (hH5.cell (i := 0) rfl (v := I _) rfl)) ?_
     refine V (fA underlying50 1 rfl sizeOf45 rfl) ?_
     refine V (run_ld underlying45 rfl rfl (hH5.cell (i := 0) rfl rfl)) ?_
     refine V (run_lenSl (hf.names.sl.hp hH5) rfl underlying45 rfl) ?_
     refine V (run_eql rfl rfl) ?_
     refine V (mV (B _) rfl) ?_
     refine RL.splitP (dj := 25) rfl (fun h24 => ?_) (fun h24 => ?_)
     ·refine RL.gT rfl (bT h24) ?_
      refine V (fA underlying50 2 rfl sizeOf48 rfl) ?_
      refine RL.gT rfl (bT h24) ?_
      refine V (run_ldBR underlying48 rfl rfl rfl (hH5.blk (i := 0) rfl)) ?_
      refine RL.gT rfl (bT h24) ?_
      refine RL.callP rfl hH5 (c_grid_Right _  _) (run_call1 call84 rfl) ?_
      intro w25 hH26
      refine V (run_pickT (bT h24) (v := B _) rfl) ?_
      refine V (aV (B _) rfl) ?_
      refine RL.nil ?_
      refine CW.ret ?_
      refine outP1 Tryz.results36 (congrArg B ?_) hH26.below
      first | exact (fac_no (f := f.fc) (nt ‹_›)).symm | exact (fac_12s (f := f.fc) (nf ‹(!namedF f.names) = false›) (.inl ‹_›)).symm | exact (fac_12s (f := f.fc) (nf ‹(!namedF f.names) = false›) (.inr ‹_›)).symm | exact (fac_3y (f := f.fc) (nf ‹(!namedF f.names) = false›) ‹_› ‹_›).symm | exact (fac_3n (f := f.fc) ‹_› ‹_›).symm | exact (fac_4y (f := f.fc) (nf ‹(!namedF f.names) = false›) ‹_› ‹_›).symm | exact (fac_4n (f := f.fc) ‹_› ‹_›).symm | exact (fac_x (f := f.fc) ‹_› ‹_› ‹_› ‹_›).symm
     ·refine RL.gF rfl rfl (bF h24) rfl ?_
      refine RL.gF rfl rfl (bF h24) rfl ?_
      refine RL.gF rfl rfl (bF h24) rfl ?_
      refine V (run_pickF (bF h24) (v := B false) rfl) ?_
      refine V (aV (B _) rfl) ?_
      refine RL.nil ?_
      refine CW.ret ?_
      refine outP1 Tryz.results36 (congrArg B ?_) hH5.below
      first | exact (fac_no (f := f.fc) (nt ‹_›)).symm | exact (fac_12s (f := f.fc) (nf ‹(!namedF f.names) = false›) (.inl ‹_›)).symm | exact (fac_12s (f := f.fc) (nf ‹(!namedF f.names) = false›) (.inr ‹_›)).symm | exact (fac_3y (f := f.fc) (nf ‹(!namedF f.names) = false›) ‹_› ‹_›).symm | exact (fac_3n (f := f.fc) ‹_› ‹_›).symm | exact (fac_4y (f := f.fc) (nf ‹(!namedF f.names) = false›) ‹_› ‹_›).symm | exact (fac_4n (f := f.fc) ‹_› ‹_›).symm | exact (fac_x (f := f.fc) ‹_› ‹_› ‹_› ‹_›).symm
    ·refine SR ?_
     refine V (run_eql rfl rfl) ?_
     refine V (aV (B _) rfl) ?_
     refine RL.nil ?_
     refine CW.condP rfl (fun h29 => ?_) (fun h29 => ?_)
     ·refine SR ?_
      refine V (fA underlying50 2 rfl sizeOf48 rfl) ?_
      refine V (fA underlying48 0 rfl sizeOf3 rfl) ?_
      refine V (run_ld underlying3 rfl rfl (hH5.cell (i := 0) rfl (v := I _) rfl)) ?_
      refine V (fA underlying50 1 rfl sizeOf45 rfl) ?_
      refine V (run_ld underlying45 rfl rfl (hH5.cell (i := 0) rfl rfl)) ?_
      refine V (run_lenSl (hf.names.sl.hp hH5) rfl underlying45 rfl) ?_
      refine V (run_eql rfl rfl) ?_
      refine V (mV (B _) rfl) ?_
      refine RL.splitP (dj := 39) rfl (fun h31 => ?_) (fun h31 => ?_)
      ·refine RL.gT rfl (bT h31) ?_
       refine V (fA underlying50 2 rfl sizeOf48 rfl) ?_
       refine RL.gT rfl (bT h31) ?_
       refine V (run_ldBR underlying48 rfl rfl rfl (hH5.blk (i := 0) rfl)) ?_
       refine RL.gT rfl (bT h31) ?_
       refine RL.callP rfl hH5 (c_hasse_Lattice _  _ (hT.hp hH5)) (run_call1 call85 rfl) ?_
       intro w32 hH33
       refine V (run_pickT (bT h31) (v := B _) rfl) ?_
       refine V (aV (B _) rfl) ?_
       refine RL.nil ?_
       refine CW.ret ?_
       refine outP1 Tryz.results36 (congrArg B ?_) hH33.below
       first | exact (fac_no (f := f.fc) (nt ‹_›)).symm | exact (fac_12s (f := f.fc) (nf ‹(!namedF f.names) = false›) (.inl ‹_›)).symm | exact (fac_12s (f := f.fc) (nf ‹(!namedF f.names) = false›) (.inr ‹_›)).symm | exact (fac_3y (f := f.fc) (nf ‹(!namedF f.names) = false›) ‹_› ‹_›).symm | exact (fac_3n (f := f.fc) ‹_› ‹_›).symm | exact (fac_4y (f := f.fc) (nf ‹(!namedF f.names) = false›) ‹_› ‹_›).symm | exact (fac_4n (f := f.fc) ‹_› ‹_›).symm | exact (fac_x (f := f.fc) ‹_› ‹_› ‹_› ‹_›).symm
      ·refine RL.gF rfl rfl (bF h31) rfl ?_
       refine RL.gF rfl rfl (bF h31) rfl ?_
       refine RL.gF rfl rfl (bF h31) rfl ?_
       refine V (run_pickF (bF h31) (v := B false) rfl) ?_
       refine V (aV (B _) rfl) ?_
       refine RL.nil ?_
       refine CW.ret ?_
       refine outP1 Tryz.results36 (congrArg B ?_) hH5.below
       first | exact (fac_no (f := f.fc) (nt ‹_›)).symm | exact (fac_12s (f := f.fc) (nf ‹(!namedF f.names) = false›) (.inl ‹_›)).symm | exact (fac_12s (f := f.fc) (nf ‹(!namedF f.names) = false›) (.inr ‹_›)).symm | exact (fac_3y (f := f.fc) (nf ‹(!namedF f.names) = false›) ‹_› ‹_›).symm | exact (fac_3n (f := f.fc) ‹_› ‹_›).symm | exact (fac_4y (f := f.fc) (nf ‹(!namedF f.names) = false›) ‹_› ‹_›).symm | exact (fac_4n (f := f.fc) ‹_› ‹_›).symm | exact (fac_x (f := f.fc) ‹_› ‹_› ‹_› ‹_›).symm
     ·refine CW.skip ?_
      refine SR ?_
      refine V (aV (B false) rfl) ?_
      refine RL.nil ?_
      refine CW.ret ?_
      refine outP1 Tryz.results36 (congrArg B ?_) hH5.below
      first | exact (fac_no (f := f.fc) (nt ‹_›)).symm | exact (fac_12s (f := f.fc) (nf ‹(!namedF f.names) = false›) (.inl ‹_›)).symm | exact (fac_12s (f := f.fc) (nf ‹(!namedF f.names) = false›) (.inr ‹_›)).symm | exact (fac_3y (f := f.fc) (nf ‹(!namedF f.names) = false›) ‹_› ‹_›).symm | exact (fac_3n (f := f.fc) ‹_› ‹_›).symm | exact (fac_4y (f := f.fc) (nf ‹(!namedF f.names) = false›) ‹_› ‹_›).symm | exact (fac_4n (f := f.fc) ‹_› ‹_›).symm | exact (fac_x (f := f.fc) ‹_› ‹_› ‹_› ‹_›).symm

theorem c_shape_Right (s : Shp) (w : World) (hs : ShpV (Kw w) s) (hT : Tab w) : Calls Tryz.prog 21 #[.agg (shpC s)] w (Pure (B (shR s.sh)) w) := by
 have hsl := sh_len s
 have hm := hs.facs.sl.small
 unfold maxLen at hm
 refine enter Tryz.func21 rfl Tryz.ntmps21 rfl ?_
 have hH := Hp.start w
 refine SR ?_
 refine RL.new rfl hH (f := fun b => (.pointer (some ⟨b, 0, none⟩))) (run_box (v := .agg _) rfl) ?_
 intro b3 w1 hH2
 refine V (aV (B false) rfl) ?_
 refine RL.nil ?_
 refine SR ?_
 refine V (fA underlying24 1 rfl sizeOf22 rfl) ?_
 refine V (run_ld underlying22 rfl rfl (hH2.cell (i := 0) rfl rfl)) ?_
 refine V (run_lenSl (hs.facs.sl.hp hH2) rfl underlying22 rfl) ?_
 refine V (aV (I _) rfl) ?_
 refine RL.nil ?_
 refine CW.seq ?_
 refine SR ?_
 refine V (mV (I _) rfl) ?_
 refine V (run_lss rfl rfl) ?_
 refine V (mV (B _) rfl) ?_
 refine RL.splitP (dj := 11) rfl (fun h5 => ?_) (fun h5 => ?_)
 ·refine RL.gF rfl rfl (bT h5) rfl ?_
  refine RL.gF rfl rfl (bT h5) rfl ?_
  refine V (run_pickT (bT h5) (v := B true) rfl) ?_
  refine V (mV (B _) rfl) ?_
  refine RL.gF rfl rfl rfl rfl ?_
  refine RL.gF rfl rfl rfl rfl ?_
  refine RL.gF rfl rfl rfl rfl ?_
  refine RL.gF rfl rfl rfl rfl ?_
  refine RL.gU rfl rfl rfl ?_
  refine RL.gU rfl rfl rfl ?_
  refine RL.gF rfl rfl rfl rfl ?_
  refine V (run_pickT rfl (v := B true) rfl) ?_
  refine RL.nil ?_
  refine CW.condT rfl ?_
  refine SR ?_
  refine V (aV (B false) rfl) ?_
  refine RL.nil ?_
  refine CW.ret ?_
  refine outP1 Tryz.results21 (congrArg B ?_) hH2.below
  first | exact (shR_no3 (k := k) h0 (by omega) (by rw [sh_get]; exact nt ‹_›)).symm | exact (shR_yes (k := k) (by omega) hc2 (by omega) fun j a b => by rw [sh_get]; exact hg j a b).symm | exact (shR_no1 (by omega)).symm | exact (shR_no2 (by first | exact nt ‹_› | assumption) (by omega)).symm
 ·refine RL.gT rfl (bF h5) ?_
  refine V (mV (I _) rfl) ?_
  refine RL.gT rfl (bF h5) ?_
  refine V (run_gtr rfl rfl) ?_
  refine V (run_pickF (bF h5) (v := B _) rfl) ?_
  refine V (mV (B _) rfl) ?_
  refine RL.splitP (dj := 15) rfl (fun h7 => ?_) (fun h7 => ?_)
  ·refine RL.gF rfl rfl (bT h7) rfl ?_
   refine RL.gF rfl rfl (bT h7) rfl ?_
   refine RL.gF rfl rfl (bT h7) rfl ?_
   refine RL.gF rfl rfl (bT h7) rfl ?_
   refine RL.gU rfl rfl rfl ?_
   refine RL.gU rfl rfl rfl ?_
   refine RL.gF rfl rfl (bT h7) rfl ?_
   refine V (run_pickT (bT h7) (v := B true) rfl) ?_
   refine RL.nil ?_
   refine CW.condT rfl ?_
   refine SR ?_
   refine V (aV (B false) rfl) ?_
   refine RL.nil ?_
   refine CW.ret ?_
   refine outP1 Tryz.results21 (congrArg B ?_) hH2.below
   first | exact (shR_no3 (k := k) h0 (by omega) (by rw [sh_get]; exact nt ‹_›)).symm | exact (shR_yes (k := k) (by omega) hc2 (by omega) fun j a b => by rw [sh_get]; exact hg j a b).symm | exact (shR_no1 (by omega)).symm | exact (shR_no2 (by first | exact nt ‹_› | assumption) (by omega)).symm
  ·refine RL.gT rfl (bF h7) ?_
   refine V (fA underlying24 0 rfl sizeOf4 rfl) ?_
   refine RL.gT rfl (bF h7) ?_
   refine V (run_ld underlying4 rfl rfl (hH2.cell (i := 0) rfl (v := B _) rfl)) ?_
   refine RL.gT rfl (bF h7) ?_
   refine V (run_not rfl) ?_
   refine RL.gT rfl (bF h7) ?_
   refine V (mV (B _) rfl) ?_
   refine RL.split (dj := 19) rfl (fun h10 => ?_) (fun h10 => ?_)
   ·refine RL.gT rfl (bR (c := true) h10) ?_
    refine V (mV (I _) rfl) ?_
    refine RL.gT rfl (bR (c := true) h10) ?_
    refine V (run_neq rfl rfl) ?_
    refine RL.gT rfl (bF h7) ?_
    refine V (run_pickT (bR (c := true) h10) (v := B _) rfl) ?_
    refine V (run_pickF (bF h7) (v := B _) rfl) ?_
    refine RL.nil ?_
    refine CW.condP rfl (fun h12 => ?_) (fun h12 => ?_)
    ·refine SR ?_
     refine V (aV (B false) rfl) ?_
     refine RL.nil ?_
     refine CW.ret ?_
     refine outP1 Tryz.results21 (congrArg B ?_) hH2.below
     first | exact (shR_no3 (k := k) h0 (by omega) (by rw [sh_get]; exact nt ‹_›)).symm | exact (shR_yes (k := k) (by omega) hc2 (by omega) fun j a b => by rw [sh_get]; exact hg j a b).symm | exact (shR_no1 (by omega)).symm | exact (shR_no2 (by first | exact nt ‹_› | assumption) (by omega)).symm
    ·refine CW.skip ?_
     refine CW.seq ?_
     refine SR ?_
     refine V (fA underlying24 1 rfl sizeOf22 rfl) ?_
     refine V (run_ld underlying22 rfl rfl (hH2.cell (i := 0) rfl rfl)) ?_
     refine V (run_lenSl (hs.facs.sl.hp hH2) rfl underlying22 rfl) ?_
     refine V (mV (I 0) rfl) ?_
     refine RL.nil ?_
     refine CW.block ?_
     have hc2 : s.sh.tuple = true ∨ s.sh.facs.length = 1 := by first | exact .inl (nf ‹(!s.tuple) = false›) | exact .inl ‹s.tuple = true› | exact .inr (by omega)
     have hc1 : 1 ≤ s.facs.length ∧ s.facs.length ≤ 8 := by omega
     refine CW.loop (G := (Int)) (fun (k : Int) s' w' => (Fr [2, 5, 27, 28, 29, 30, 31, 32, 33, 34] _ s') ∧ (Hp w w' _) ∧ (s' 27 = I k) ∧ (0 ≤ k) ∧ (k ≤ s.facs.length) ∧ (∀ j : Int, 0 ≤ j → j < k → factorR (s.facs.getD j.toNat fac0).fc = true)) (fun (k : Int) => (s.facs.length - k).toNat) (0) ⟨Fr.refl _ _, hH2, rfl, (by omega), (by omega), fun j a b => absurd b (by omega)⟩ ?_
     rintro k sg13 w13 ⟨fr13, hH13, e27_13, h0, hk, hg⟩
     have e25_13 := (fr13 25 rfl).trans (by conv => lhs; whnf)
     have e26_13 : sg13 26 = I _ := (fr13 26 rfl).trans rfl
     refine SR ?_
     refine V (run_lss e27_13 e26_13) ?_
     refine RL.nil ?_
     refine CW.seq ?_
     refine CW.condP rfl (fun h15 => ?_) (fun h15 => ?_)
     ·refine CW.skip ?_
      refine CW.seq ?_
      refine CW.block ?_
      refine SR ?_
      refine V (run_indexAddrS (hs.facs.sl.hp hH13) underlying22 sizeOf50 e25_13 e27_13 (by omega)) ?_
      refine V (run_ldE (dv := fac0) facL_len (hs.facs.sl.hp hH13) underlying50 rfl rfl rfl (by omega)) ?_
      refine RL.new rfl hH13 (f := fun b => (.pointer (some ⟨b, 0, none⟩))) (run_alloc zero_fac) ?_
      intro b18 w16 hH17
      refine RL.set hH17 (i := 0) rfl (run_stFac (hs.at (by omega) (by omega)) rfl rfl rfl (hH17.blk (i := 0) rfl)) ?_
      intro w19 hH20
      simp only [z0, z1] at hH20
      refine RL.nil ?_
      refine SR ?_
      refine V (run_ldFac underlying50 rfl rfl rfl (hH20.blk (i := 0) rfl)) ?_
      refine RL.callP rfl hH20 (c_shape_factor _  _ ((hs.at (by omega) (by omega)).mono hH20.kw) (hT.hp hH20)) (run_call1 call36 rfl) ?_
      intro w21 hH22
      refine V (run_not rfl) ?_
      refine RL.nil ?_
      refine CW.cond rfl (fun h25 => ?_) (fun h25 => ?_)
      ·refine SR ?_
       refine V (aV (B false) rfl) ?_
       refine RL.nil ?_
       refine CW.ret ?_
       refine outP1 Tryz.results21 (congrArg B ?_) hH22.below
       first | exact (shR_no3 (k := k) h0 (by omega) (by rw [sh_get]; exact nt ‹_›)).symm | exact (shR_yes (k := k) (by omega) hc2 (by omega) fun j a b => by rw [sh_get]; exact hg j a b).symm | exact (shR_no1 (by omega)).symm | exact (shR_no2 (by first | exact nt ‹_› | assumption) (by omega)).symm
      ·refine CW.skip ?_
       refine CW.region ?_
       refine V (run_add e27_13 rfl (by omega)) ?_
       refine V (mV (I _) rfl) ?_
       refine RL.nil ?_
       refine ⟨k + 1, ?_, fr13.u4.u4.u1, (hH22.sub (sQ sR)), (congrArg I (by first | rfl | omega)), ?_, ?_, ?_⟩
       ·((try dsimp only); omega)
       ·omega
       ·omega
       ·exact fun j a b => if e : j = k then e ▸ nf ‹_› else hg j a (by omega)
     ·refine CW.exit (id := 0) rfl ?_
      refine SR ?_
      refine V (aV (B true) rfl) ?_
      refine RL.nil ?_
      refine CW.ret ?_
      refine outP1 Tryz.results21 (congrArg B ?_) hH13.below
      first | exact (shR_no3 (k := k) h0 (by omega) (by rw [sh_get]; exact nt ‹_›)).symm | exact (shR_yes (k := k) (by omega) hc2 (by omega) fun j a b => by rw [sh_get]; exact hg j a b).symm | exact (shR_no1 (by omega)).symm | exact (shR_no2 (by first | exact nt ‹_› | assumption) (by omega)).symm
   ·refine RL.gF rfl rfl (bR (c := false) h10) rfl ?_
    refine RL.gF rfl rfl (bR (c := false) h10) rfl ?_
    refine RL.gT rfl (bF h7) ?_
    refine V (run_pickF (bR (c := false) h10) (v := B false) rfl) ?_
    refine V (run_pickF (bF h7) (v := B _) rfl) ?_
    refine RL.nil ?_
    refine CW.condF rfl ?_
    refine CW.skip ?_
    refine CW.seq ?_
    refine SR ?_
    refine V (fA underlying24 1 rfl sizeOf22 rfl) ?_
    refine V (run_ld underlying22 rfl rfl (hH2.cell (i := 0) rfl rfl)) ?_
    refine V (run_lenSl (hs.facs.sl.hp hH2) rfl underlying22 rfl) ?_
    refine V (mV (I 0) rfl) ?_
    refine RL.nil ?_
    refine CW.block ?_
    have hc2 : s.sh.tuple = true ∨ s.sh.facs.length = 1 := by first | exact .inl (nf ‹(!s.tuple) = false›) | exact .inl ‹s.tuple = true› | exact .inr (by omega)
    have hc1 : 1 ≤ s.facs.length ∧ s.facs.length ≤ 8 := by omega
    refine CW.loop (G := (Int)) (fun (k : Int) s' w' => (Fr [2, 5, 27, 28, 29, 30, 31, 32, 33, 34] _ s') ∧ (Hp w w' _) ∧ (s' 27 = I k) ∧ (0 ≤ k) ∧ (k ≤ s.facs.length) ∧ (∀ j : Int, 0 ≤ j → j < k → factorR (s.facs.getD j.toNat fac0).fc = true)) (fun (k : Int) => (s.facs.length - k).toNat) (0) ⟨Fr.refl _ _, hH2, rfl, (by omega), (by omega), fun j a b => absurd b (by omega)⟩ ?_
    rintro k sg26 w26 ⟨fr26, hH26, e27_26, h0, hk, hg⟩
    have e25_26 := (fr26 25 rfl).trans (by conv => lhs; whnf)
    have e26_26 : sg26 26 = I _ := (fr26 26 rfl).trans rfl
    refine SR ?_
    refine V (run_lss e27_26 e26_26) ?_
    refine RL.nil ?_
    refine CW.seq ?_
    refine CW.condP rfl (fun h28 => ?_) (fun h28 => ?_)
    ·refine CW.skip ?_
     refine CW.seq ?_
     refine CW.block ?_
     refine SR ?_
     refine V (run_indexAddrS (hs.facs.sl.hp hH26) underlying22 sizeOf50 e25_26 e27_26 (by omega)) ?_
     refine V (run_ldE (dv := fac0) facL_len (hs.facs.sl.hp hH26) underlying50 rfl rfl rfl (by omega)) ?_
     refine RL.new rfl hH26 (f := fun b => (.pointer (some ⟨b, 0, none⟩))) (run_alloc zero_fac) ?_
     intro b31 w29 hH30
     refine RL.set hH30 (i := 0) rfl (run_stFac (hs.at (by omega) (by omega)) rfl rfl rfl (hH30.blk (i := 0) rfl)) ?_
     intro w32 hH33
     simp only [z0, z1] at hH33
     refine RL.nil ?_
     refine SR ?_
     refine V (run_ldFac underlying50 rfl rfl rfl (hH33.blk (i := 0) rfl)) ?_
     refine RL.callP rfl hH33 (c_shape_factor _  _ ((hs.at (by omega) (by omega)).mono hH33.kw) (hT.hp hH33)) (run_call1 call36 rfl) ?_
     intro w34 hH35
     refine V (run_not rfl) ?_
     refine RL.nil ?_
     refine CW.cond rfl (fun h38 => ?_) (fun h38 => ?_)
     ·refine SR ?_
      refine V (aV (B false) rfl) ?_
      refine RL.nil ?_
      refine CW.ret ?_
      refine outP1 Tryz.results21 (congrArg B ?_) hH35.below
      first | exact (shR_no3 (k := k) h0 (by omega) (by rw [sh_get]; exact nt ‹_›)).symm | exact (shR_yes (k := k) (by omega) hc2 (by omega) fun j a b => by rw [sh_get]; exact hg j a b).symm | exact (shR_no1 (by omega)).symm | exact (shR_no2 (by first | exact nt ‹_› | assumption) (by omega)).symm
     ·refine CW.skip ?_
      refine CW.region ?_
      refine V (run_add e27_26 rfl (by omega)) ?_
      refine V (mV (I _) rfl) ?_
      refine RL.nil ?_
      refine ⟨k + 1, ?_, fr26.u4.u4.u1, (hH35.sub (sQ sR)), (congrArg I (by first | rfl | omega)), ?_, ?_, ?_⟩
      ·((try dsimp only); omega)
      ·omega
      ·omega
      ·exact fun j a b => if e : j = k then e ▸ nf ‹_› else hg j a (by omega)
    ·refine CW.exit (id := 0) rfl ?_
     refine SR ?_
     refine V (aV (B true) rfl) ?_
     refine RL.nil ?_
     refine CW.ret ?_
     refine outP1 Tryz.results21 (congrArg B ?_) hH26.below
     first | exact (shR_no3 (k := k) h0 (by omega) (by rw [sh_get]; exact nt ‹_›)).symm | exact (shR_yes (k := k) (by omega) hc2 (by omega) fun j a b => by rw [sh_get]; exact hg j a b).symm | exact (shR_no1 (by omega)).symm | exact (shR_no2 (by first | exact nt ‹_› | assumption) (by omega)).symm

theorem c_shape_word (f : Fac) (s : BitVec 64) (w : World) (hf : FacV (Kw w) f) (hT : Tab w) : Calls Tryz.prog 35 #[.agg (facC f), U s] w (Pure (B (wordF f.fc s)) w) := by
 have hm := hf.names.sl.small
 unfold maxLen at hm
 refine enter Tryz.func35 rfl Tryz.ntmps35 rfl ?_
 have hH := Hp.start w
 refine SR ?_
 refine RL.new rfl hH (f := fun b => (.pointer (some ⟨b, 0, none⟩))) (run_box (v := .agg _) rfl) ?_
 intro b3 w1 hH2
 refine V (aV (B false) rfl) ?_
 refine RL.nil ?_
 refine CW.seq ?_
 refine SR ?_
 refine V (fA underlying50 0 rfl sizeOf3 rfl) ?_
 refine V (run_ld underlying3 rfl rfl (hH2.cell (i := 0) rfl (v := I _) rfl)) ?_
 refine RL.nil ?_
 refine CW.block ?_
 refine SR ?_
 refine V (run_eql rfl rfl) ?_
 refine V (aV (B _) rfl) ?_
 refine RL.nil ?_
 refine CW.condP rfl (fun h5 => ?_) (fun h5 => ?_)
 ·refine SR ?_
  refine V (fA underlying50 1 rfl sizeOf45 rfl) ?_
  refine V (run_ld underlying45 rfl rfl (hH2.cell (i := 0) rfl rfl)) ?_
  refine V (run_lenSl (hf.names.sl.hp hH2) rfl underlying45 rfl) ?_
  refine V (mV (U _) rfl) ?_
  refine RL.callP rfl hH2 (c_rung_Right _ _  _) (run_call2 call78 rfl rfl) ?_
  intro w6 hH7
  refine V (aV (B _) rfl) ?_
  refine RL.nil ?_
  refine CW.ret ?_
  refine outP1 Tryz.results35 (congrArg B ?_) hH7.below
  first | exact (word1 (f := f.fc) ‹_› s).symm | exact (word2 (f := f.fc) ‹_› s).symm | exact (word3 (f := f.fc) ‹_› s).symm | exact (wordx (f := f.fc) ‹_› ‹_› ‹_› s).symm
 ·refine SR ?_
  refine V (run_eql rfl rfl) ?_
  refine V (aV (B _) rfl) ?_
  refine RL.nil ?_
  refine CW.condP rfl (fun h10 => ?_) (fun h10 => ?_)
  ·refine SR ?_
   refine V (mV (U _) rfl) ?_
   refine V (fA underlying50 1 rfl sizeOf45 rfl) ?_
   refine V (run_ld underlying45 rfl rfl (hH2.cell (i := 0) rfl rfl)) ?_
   refine V (run_lenSl (hf.names.sl.hp hH2) rfl underlying45 rfl) ?_
   refine RL.callP rfl hH2 (c_mask_Below _  _) (run_call1 call80 rfl) ?_
   intro w11 hH12
   refine RL.callP rfl hH12 (c_mask_Sub _ _  _) (run_call2 call79 rfl rfl) ?_
   intro w13 hH14
   refine V (aV (B _) rfl) ?_
   refine RL.nil ?_
   refine CW.ret ?_
   refine outP1 Tryz.results35 (congrArg B ?_) hH14.below
   first | exact (word1 (f := f.fc) ‹_› s).symm | exact (word2 (f := f.fc) ‹_› s).symm | exact (word3 (f := f.fc) ‹_› s).symm | exact (wordx (f := f.fc) ‹_› ‹_› ‹_› s).symm
  ·refine SR ?_
   refine V (run_eql rfl rfl) ?_
   refine V (aV (B _) rfl) ?_
   refine RL.nil ?_
   refine CW.condP rfl (fun h17 => ?_) (fun h17 => ?_)
   ·refine SR ?_
    refine V (fA underlying50 2 rfl sizeOf48 rfl) ?_
    refine V (run_ldBR underlying48 rfl rfl rfl (hH2.blk (i := 0) rfl)) ?_
    refine V (mV (U _) rfl) ?_
    refine RL.callP rfl hH2 (c_grid_Closed _ _  _ (hT.hp hH2)) (run_call2 call81 rfl rfl) ?_
    intro w18 hH19
    refine V (aV (B _) rfl) ?_
    refine RL.nil ?_
    refine CW.ret ?_
    refine outP1 Tryz.results35 (congrArg B ?_) hH19.below
    first | exact (word1 (f := f.fc) ‹_› s).symm | exact (word2 (f := f.fc) ‹_› s).symm | exact (word3 (f := f.fc) ‹_› s).symm | exact (wordx (f := f.fc) ‹_› ‹_› ‹_› s).symm
   ·refine CW.skip ?_
    refine SR ?_
    refine V (fA underlying50 2 rfl sizeOf48 rfl) ?_
    refine V (run_ldBR underlying48 rfl rfl rfl (hH2.blk (i := 0) rfl)) ?_
    refine V (mV (U _) rfl) ?_
    refine RL.callP rfl hH2 (c_hasse_Point _ _  _ (hT.hp hH2)) (run_call2 call58 rfl rfl) ?_
    intro w21 hH22
    refine V (run_move (by conv => lhs; whnf)) ?_
    refine V (run_extract rfl (v := I _) rfl) ?_
    refine V (run_extract rfl (v := B _) rfl) ?_
    refine V (aV (I _) rfl) ?_
    refine V (aV (B _) rfl) ?_
    refine RL.nil ?_
    refine SR ?_
    refine V (mV (B _) rfl) ?_
    refine V (aV (B _) rfl) ?_
    refine RL.nil ?_
    refine CW.ret ?_
    refine outP1 Tryz.results35 (congrArg B ?_) hH22.below
    first | exact (word1 (f := f.fc) ‹_› s).symm | exact (word2 (f := f.fc) ‹_› s).symm | exact (word3 (f := f.fc) ‹_› s).symm | exact (wordx (f := f.fc) ‹_› ‹_› ‹_› s).symm

theorem c_shape_Fits (s : Shp) (e : El) (w : World) (hs : ShpV (Kw w) s) (hT : Tab w) : Calls Tryz.prog 18 #[.agg (shpC s), .agg (elC e)] w (Pure (B (fitsS s.sh e)) w) := by
 have hsl := sh_len s
 have hm := hs.facs.sl.small
 unfold maxLen at hm
 refine enter Tryz.func18 rfl Tryz.ntmps18 rfl ?_
 have hH := Hp.start w
 refine SR ?_
 refine RL.new rfl hH (f := fun b => (.pointer (some ⟨b, 0, none⟩))) (run_box (v := .agg _) rfl) ?_
 intro b3 w1 hH2
 refine RL.new rfl hH2 (f := fun b => (.pointer (some ⟨b, 0, none⟩))) (run_box (v := .agg _) rfl) ?_
 intro b6 w4 hH5
 refine V (aV (B false) rfl) ?_
 refine RL.nil ?_
 refine CW.seq ?_
 refine SR ?_
 refine V (run_ldA (cs := [B _, _]) underlying24 rfl rfl rfl (rangeAt_cells (hH5.blk (i := 1) rfl))) ?_
 refine RL.callP rfl hH5 (c_shape_Right _  _ (hs.mono hH5.kw) (hT.hp hH5)) (run_call1 call21 rfl) ?_
 intro w7 hH8
 refine V (run_not rfl) ?_
 refine RL.nil ?_
 refine CW.cond rfl (fun h11 => ?_) (fun h11 => ?_)
 ·refine SR ?_
  refine V (aV (B false) rfl) ?_
  refine RL.nil ?_
  refine CW.ret ?_
  refine outP1 Tryz.results18 (congrArg B ?_) hH8.below
  first | exact (fits_no1 (nt ‹_›)).symm | exact (fits_no3 h0 ‹_› (by omega) ‹_›).symm | exact (fits_no2 h0 ‹_› (by omega) (by rw [sh_get]; exact nt ‹_›)).symm | exact (fits_yes hr ‹_› hf).symm
 ·refine CW.skip ?_
  refine CW.seq ?_
  refine SR ?_
  refine V (run_ldEl underlying34 rfl rfl rfl (hH8.blk (i := 0) rfl)) ?_
  refine V (mV (I 0) rfl) ?_
  refine RL.nil ?_
  refine CW.block ?_
  have hr : shR s.sh = true := nf ‹_›
  refine CW.loop (G := (Int)) (fun (k : Int) s' w' => (Fr [4, 5, 6, 11, 12, 13, 14, 15, 16, 17, 18, 19, 20, 21, 22, 23, 24, 25, 26, 27, 28, 29, 30] _ s') ∧ (Hp w w' _) ∧ (s' 11 = I k) ∧ (0 ≤ k) ∧ (k ≤ 8) ∧ (FitTo s.sh e k)) (fun (k : Int) => (8 - k).toNat) (0) ⟨Fr.refl _ _, hH8, rfl, (by omega), (by omega), FitTo.none _ _⟩ ?_
  rintro k sg12 w12 ⟨fr12, hH12, e11_12, h0, hk, hf⟩
  have e2_12 : sg12 2 = Pn _ _ := (fr12 2 rfl).trans rfl
  have e10_12 : sg12 10 = .agg _ := (fr12 10 rfl).trans rfl
  refine SR ?_
  refine V (run_lss e11_12 rfl) ?_
  refine RL.nil ?_
  refine CW.seq ?_
  refine CW.condP rfl (fun h14 => ?_) (fun h14 => ?_)
  ·refine CW.skip ?_
   refine CW.seq ?_
   refine CW.block ?_
   refine SR ?_
   refine V (run_move e11_12) ?_
   refine V (run_indexA underlying34 isAgg32 sizeOf32 e10_12 e11_12 (by omega) (elC_ix _ (by omega))) ?_
   refine V (aV (I _) rfl) ?_
   refine V (aV (U _) rfl) ?_
   refine RL.nil ?_
   refine CW.seq ?_
   refine SR ?_
   refine V (mV (I _) rfl) ?_
   refine V (fA underlying24 1 rfl sizeOf22 e2_12) ?_
   refine V (run_ld underlying22 rfl rfl (hH12.cell (i := 1) rfl rfl)) ?_
   refine V (run_lenSl (hs.facs.sl.hp hH12) rfl underlying22 rfl) ?_
   refine V (run_geq rfl rfl) ?_
   refine RL.nil ?_
   refine CW.condP rfl (fun h16 => ?_) (fun h16 => ?_)
   ·refine CW.seq ?_
    refine SR ?_
    refine V (mV (U _) rfl) ?_
    refine V (run_neqU rfl (b := 0#64) rfl) ?_
    refine RL.nil ?_
    refine CW.condP rfl (fun h18 => ?_) (fun h18 => ?_)
    ·refine SR ?_
     refine V (aV (B false) rfl) ?_
     refine RL.nil ?_
     refine CW.ret ?_
     refine outP1 Tryz.results18 (congrArg B ?_) hH12.below
     first | exact (fits_no1 (nt ‹_›)).symm | exact (fits_no3 h0 ‹_› (by omega) ‹_›).symm | exact (fits_no2 h0 ‹_› (by omega) (by rw [sh_get]; exact nt ‹_›)).symm | exact (fits_yes hr ‹_› hf).symm
    ·refine CW.skip ?_
     refine CW.exit (id := 1) rfl ?_
     refine CW.region ?_
     refine V (run_add e11_12 rfl (by omega)) ?_
     refine V (mV (I _) rfl) ?_
     refine RL.nil ?_
     refine ⟨k + 1, ?_, fr12.u4.u4.u4.u1.u1, hH12, (congrArg I (by first | rfl | omega)), ?_, ?_, ?_⟩
     ·((try dsimp only); omega)
     ·omega
     ·omega
     ·exact hf.next (fun h => by first | (exfalso; omega) | (rw [sh_get]; exact nf ‹_›)) (fun h => by first | exact Decidable.of_not_not ‹_› | (exfalso; omega))
   ·refine CW.skip ?_
    refine SR ?_
    refine V (fA underlying24 1 rfl sizeOf22 e2_12) ?_
    refine V (run_ld underlying22 rfl rfl (hH12.cell (i := 1) rfl rfl)) ?_
    refine V (mV (I _) rfl) ?_
    refine V (run_indexAddrS (hs.facs.sl.hp hH12) underlying22 sizeOf50 rfl rfl (by omega)) ?_
    refine V (run_ldE (dv := fac0) facL_len (hs.facs.sl.hp hH12) underlying50 rfl rfl rfl (by omega)) ?_
    refine V (mV (U _) rfl) ?_
    refine RL.callP rfl hH12 (c_shape_word _ _  _ ((hs.at (by omega) (by omega)).mono hH12.kw) (hT.hp hH12)) (run_call2 call35 rfl rfl) ?_
    intro w19 hH20
    refine V (run_not rfl) ?_
    refine RL.nil ?_
    refine CW.cond rfl (fun h23 => ?_) (fun h23 => ?_)
    ·refine SR ?_
     refine V (aV (B false) rfl) ?_
     refine RL.nil ?_
     refine CW.ret ?_
     refine outP1 Tryz.results18 (congrArg B ?_) hH20.below
     first | exact (fits_no1 (nt ‹_›)).symm | exact (fits_no3 h0 ‹_› (by omega) ‹_›).symm | exact (fits_no2 h0 ‹_› (by omega) (by rw [sh_get]; exact nt ‹_›)).symm | exact (fits_yes hr ‹_› hf).symm
    ·refine CW.skip ?_
     refine CW.region ?_
     refine V (run_add e11_12 rfl (by omega)) ?_
     refine V (mV (I _) rfl) ?_
     refine RL.nil ?_
     refine ⟨k + 1, ?_, fr12.u4.u4.u4.u4.u4, hH20, (congrArg I (by first | rfl | omega)), ?_, ?_, ?_⟩
     ·((try dsimp only); omega)
     ·omega
     ·omega
     ·exact hf.next (fun h => by first | (exfalso; omega) | (rw [sh_get]; exact nf ‹_›)) (fun h => by first | exact Decidable.of_not_not ‹_› | (exfalso; omega))
  ·refine CW.exit (id := 0) rfl ?_
   refine SR ?_
   refine V (aV (B true) rfl) ?_
   refine RL.nil ?_
   refine CW.ret ?_
   refine outP1 Tryz.results18 (congrArg B ?_) hH12.below
   first | exact (fits_no1 (nt ‹_›)).symm | exact (fits_no3 h0 ‹_› (by omega) ‹_›).symm | exact (fits_no2 h0 ‹_› (by omega) (by rw [sh_get]; exact nt ‹_›)).symm | exact (fits_yes hr ‹_› hf).symm

theorem c_clearanceref07_factor (f : Fac) (w : World) (hf : FacV (Kw w) f) : Calls Tryz.prog 31 #[.agg (facC f)] w (Pure (B (factorR f.fc)) w) := by
 have hm := hf.names.sl.small
 unfold maxLen at hm
 refine enter Tryz.func31 rfl Tryz.ntmps31 rfl ?_
 have hH := Hp.start w
 refine SR ?_
 refine RL.new rfl hH (f := fun b => (.pointer (some ⟨b, 0, none⟩))) (run_box (v := .agg _) rfl) ?_
 intro b3 w1 hH2
 refine V (aV (B false) rfl) ?_
 refine RL.nil ?_
 refine SR ?_
 refine V (fA underlying50 1 rfl sizeOf45 rfl) ?_
 refine V (run_ld underlying45 rfl rfl (hH2.cell (i := 0) rfl rfl)) ?_
 refine V (run_lenSl (hf.names.sl.hp hH2) rfl underlying45 rfl) ?_
 refine V (aV (I _) rfl) ?_
 refine RL.nil ?_
 refine CW.seq ?_
 refine SR ?_
 refine V (mV (I _) rfl) ?_
 refine V (run_lss rfl rfl) ?_
 refine V (mV (B _) rfl) ?_
 refine RL.splitP (dj := 10) rfl (fun h5 => ?_) (fun h5 => ?_)
 ·refine RL.gF rfl rfl (bT h5) rfl ?_
  refine RL.gF rfl rfl (bT h5) rfl ?_
  refine V (run_pickT (bT h5) (v := B true) rfl) ?_
  refine V (mV (B _) rfl) ?_
  refine RL.gF rfl rfl rfl rfl ?_
  refine RL.gF rfl rfl rfl rfl ?_
  refine RL.gF rfl rfl rfl rfl ?_
  refine RL.gF rfl rfl rfl rfl ?_
  refine V (run_pickT rfl (v := B true) rfl) ?_
  refine RL.nil ?_
  refine CW.condT rfl ?_
  refine SR ?_
  refine V (aV (B false) rfl) ?_
  refine RL.nil ?_
  refine CW.ret ?_
  refine outP1 Tryz.results31 (congrArg B ?_) hH2.below
  first | exact (fac_no (f := f.fc) (named_no1 (by show ¬ (1 ≤ f.names.length ∧ f.names.length ≤ 64); omega))).symm | exact (fac_no (f := f.fc) (named_no2 (by show ¬ twice f.names < 0; omega))).symm | exact (fac_no (f := f.fc) (named_no3 h0 ‹_› (nt ‹_›))).symm | (have hny : namedF f.names = true := named_yes hn1 hn2 ‹¬ k < _› hg; first | exact (fac_12 (f := f.fc) hny (.inl ‹_›)).symm | exact (fac_12 (f := f.fc) hny (.inr ‹_›)).symm | exact (fac_3y (f := f.fc) hny ‹_› ‹_›).symm | exact (fac_3n (f := f.fc) ‹_› ‹_›).symm | exact (fac_4y (f := f.fc) hny ‹_› ‹_›).symm | exact (fac_4n (f := f.fc) ‹_› ‹_›).symm | exact (fac_x (f := f.fc) ‹_› ‹_› ‹_› ‹_›).symm)
 ·refine RL.gT rfl (bF h5) ?_
  refine V (mV (I _) rfl) ?_
  refine RL.gT rfl (bF h5) ?_
  refine V (run_gtr rfl rfl) ?_
  refine V (run_pickF (bF h5) (v := B _) rfl) ?_
  refine V (mV (B _) rfl) ?_
  refine RL.splitP (dj := 14) rfl (fun h7 => ?_) (fun h7 => ?_)
  ·refine RL.gF rfl rfl (bT h7) rfl ?_
   refine RL.gF rfl rfl (bT h7) rfl ?_
   refine RL.gF rfl rfl (bT h7) rfl ?_
   refine RL.gF rfl rfl (bT h7) rfl ?_
   refine V (run_pickT (bT h7) (v := B true) rfl) ?_
   refine RL.nil ?_
   refine CW.condT rfl ?_
   refine SR ?_
   refine V (aV (B false) rfl) ?_
   refine RL.nil ?_
   refine CW.ret ?_
   refine outP1 Tryz.results31 (congrArg B ?_) hH2.below
   first | exact (fac_no (f := f.fc) (named_no1 (by show ¬ (1 ≤ f.names.length ∧ f.names.length ≤ 64); omega))).symm | exact (fac_no (f := f.fc) (named_no2 (by show ¬ twice f.names < 0; omega))).symm | exact (fac_no (f := f.fc) (named_no3 h0 ‹_› (nt ‹_›))).symm | (have hny : namedF f.names = true := named_yes hn1 hn2 ‹¬ k < _› hg; first | exact (fac_12 (f := f.fc) hny (.inl ‹_›)).symm | exact (fac_12 (f := f.fc) hny (.inr ‹_›)).symm | exact (fac_3y (f := f.fc) hny ‹_› ‹_›).symm | exact (fac_3n (f := f.fc) ‹_› ‹_›).symm | exact (fac_4y (f := f.fc) hny ‹_› ‹_›).symm | exact (fac_4n (f := f.fc) ‹_› ‹_›).symm | exact (fac_x (f := f.fc) ‹_› ‹_› ‹_› ‹_›).symm)
  ·refine RL.gT rfl (bF h7) ?_
   refine V (fA underlying50 1 rfl sizeOf45 rfl) ?_
   refine RL.gT rfl (bF h7) ?_
   refine V (run_ld underlying45 rfl rfl (hH2.cell (i := 0) rfl rfl)) ?_
   refine RL.gT rfl (bF h7) ?_
   refine RL.callP rfl hH2 (c_clearanceref02_Twice _ _  _ (hf.names.sl.hp hH2)) (run_call1 call72 rfl) ?_
   intro w8 hH9
   refine RL.gT rfl (bF h7) ?_
   refine V (run_geq rfl rfl) ?_
   refine V (run_pickF (bF h7) (v := B _) rfl) ?_
   refine RL.nil ?_
   refine CW.condP rfl (fun h11 => ?_) (fun h11 => ?_)
   ·refine SR ?_
    refine V (aV (B false) rfl) ?_
    refine RL.nil ?_
    refine CW.ret ?_
    refine outP1 Tryz.results31 (congrArg B ?_) hH9.below
    first | exact (fac_no (f := f.fc) (named_no1 (by show ¬ (1 ≤ f.names.length ∧ f.names.length ≤ 64); omega))).symm | exact (fac_no (f := f.fc) (named_no2 (by show ¬ twice f.names < 0; omega))).symm | exact (fac_no (f := f.fc) (named_no3 h0 ‹_› (nt ‹_›))).symm | (have hny : namedF f.names = true := named_yes hn1 hn2 ‹¬ k < _› hg; first | exact (fac_12 (f := f.fc) hny (.inl ‹_›)).symm | exact (fac_12 (f := f.fc) hny (.inr ‹_›)).symm | exact (fac_3y (f := f.fc) hny ‹_› ‹_›).symm | exact (fac_3n (f := f.fc) ‹_› ‹_›).symm | exact (fac_4y (f := f.fc) hny ‹_› ‹_›).symm | exact (fac_4n (f := f.fc) ‹_› ‹_›).symm | exact (fac_x (f := f.fc) ‹_› ‹_› ‹_› ‹_›).symm)
   ·refine CW.skip ?_
    refine CW.seq ?_
    refine SR ?_
    refine V (aV (I 0) rfl) ?_
    refine RL.nil ?_
    refine CW.block ?_
    have hn1 : 1 ≤ f.names.length ∧ f.names.length ≤ 64 := by omega
    have hn2 : twice f.names < 0 := by omega
    refine CW.loop (G := (Int)) (fun (k : Int) s' w' => (Fr [2, 4, 20, 21, 22, 23, 24, 25, 26, 27, 28, 29, 30, 31] _ s') ∧ (Hp w w' _) ∧ (s' 4 = I k) ∧ (0 ≤ k) ∧ (k ≤ f.names.length) ∧ (∀ j : Int, 0 ≤ j → j < k → nameR (f.names.getD j.toNat tx0) = true)) (fun (k : Int) => (f.names.length - k).toNat) (0) ⟨Fr.refl _ _, hH9, rfl, (by omega), (by omega), fun j a b => absurd b (by omega)⟩ ?_
    rintro k sg12 w12 ⟨fr12, hH12, e4_12, h0, hk, hg⟩
    have e1_12 : sg12 1 = Pn _ _ := (fr12 1 rfl).trans rfl
    have e3_12 : sg12 3 = I _ := (fr12 3 rfl).trans rfl
    refine CW.seq ?_
    refine SR ?_
    refine V (run_move e4_12) ?_
    refine V (run_move e3_12) ?_
    refine V (run_lss rfl rfl) ?_
    refine RL.nil ?_
    refine CW.condP rfl (fun h14 => ?_) (fun h14 => ?_)
    ·refine CW.skip ?_
     refine CW.seq ?_
     refine CW.block ?_
     refine SR ?_
     refine V (fA underlying50 1 rfl sizeOf45 e1_12) ?_
     refine V (run_ld underlying45 rfl rfl (hH12.cell (i := 0) rfl rfl)) ?_
     refine V (run_move e4_12) ?_
     refine V (run_indexAddrS (hf.names.sl.hp hH12) underlying45 sizeOf9 rfl rfl (by omega)) ?_
     refine V (run_ld underlying9 rfl rfl ((hf.names.sl.hp hH12).cell _ _ (txL_at (by omega)))) ?_
     refine RL.callP rfl hH12 (c_clearanceref02_Right _  _) (run_call1 call32 rfl) ?_
     intro w15 hH16
     refine V (run_not rfl) ?_
     refine RL.nil ?_
     refine CW.cond rfl (fun h19 => ?_) (fun h19 => ?_)
     ·refine SR ?_
      refine V (aV (B false) rfl) ?_
      refine RL.nil ?_
      refine CW.ret ?_
      refine outP1 Tryz.results31 (congrArg B ?_) hH16.below
      first | exact (fac_no (f := f.fc) (named_no1 (by show ¬ (1 ≤ f.names.length ∧ f.names.length ≤ 64); omega))).symm | exact (fac_no (f := f.fc) (named_no2 (by show ¬ twice f.names < 0; omega))).symm | exact (fac_no (f := f.fc) (named_no3 h0 ‹_› (nt ‹_›))).symm | (have hny : namedF f.names = true := named_yes hn1 hn2 ‹¬ k < _› hg; first | exact (fac_12 (f := f.fc) hny (.inl ‹_›)).symm | exact (fac_12 (f := f.fc) hny (.inr ‹_›)).symm | exact (fac_3y (f := f.fc) hny ‹_› ‹_›).symm | exact (fac_3n (f := f.fc) ‹_› ‹_›).symm | exact (fac_4y (f := f.fc) hny ‹_› ‹_›).symm | exact (fac_4n (f := f.fc) ‹_› ‹_›).symm | exact (fac_x (f := f.fc) ‹_› ‹_› ‹_› ‹_›).symm)
     ·refine CW.skip ?_
      refine CW.region ?_
      refine V (run_move e4_12) ?_
      refine V (run_add rfl rfl (by omega)) ?_
      refine V (aV (I _) rfl) ?_
      refine RL.nil ?_
      refine ⟨k + 1, ?_, fr12.u4.u4.u4.u1, hH16, (congrArg I (by first | rfl | omega)), ?_, ?_, ?_⟩
      ·((try dsimp only); omega)
      ·omega
      ·omega
      ·exact fun j a b => if e : j = k then e ▸ nf ‹_› else hg j a (by omega)
    ·refine CW.exit (id := 0) rfl ?_
     refine CW.seq ?_
     refine SR ?_
     refine V (fA underlying50 0 rfl sizeOf3 e1_12) ?_
     refine V (run_ld underlying3 rfl rfl (hH12.cell (i := 0) rfl (v := I _) rfl)) ?_
     refine V (run_eql rfl rfl) ?_
     refine V (mV (B _) rfl) ?_
     refine RL.splitP (dj := 35) rfl (fun h21 => ?_) (fun h21 => ?_)
     ·refine RL.gF rfl rfl (bT h21) rfl ?_
      refine RL.gF rfl rfl (bT h21) rfl ?_
      refine RL.gF rfl rfl (bT h21) rfl ?_
      refine V (run_pickT (bT h21) (v := B true) rfl) ?_
      refine RL.nil ?_
      refine CW.condT rfl ?_
      refine SR ?_
      refine V (fA underlying50 2 rfl sizeOf48 e1_12) ?_
      refine V (run_ldBR underlying48 rfl rfl rfl (hH12.blk (i := 0) rfl)) ?_
      refine RL.callP rfl hH12 (c_clearanceref03_Points _  _) (run_call1 call73 rfl) ?_
      intro w22 hH23
      refine V (run_eql rfl rfl) ?_
      refine V (aV (B _) rfl) ?_
      refine RL.nil ?_
      refine CW.ret ?_
      refine outP1 Tryz.results31 (congrArg B ?_) hH23.below
      first | exact (fac_no (f := f.fc) (named_no1 (by show ¬ (1 ≤ f.names.length ∧ f.names.length ≤ 64); omega))).symm | exact (fac_no (f := f.fc) (named_no2 (by show ¬ twice f.names < 0; omega))).symm | exact (fac_no (f := f.fc) (named_no3 h0 ‹_› (nt ‹_›))).symm | (have hny : namedF f.names = true := named_yes hn1 hn2 ‹¬ k < _› hg; first | exact (fac_12 (f := f.fc) hny (.inl ‹_›)).symm | exact (fac_12 (f := f.fc) hny (.inr ‹_›)).symm | exact (fac_3y (f := f.fc) hny ‹_› ‹_›).symm | exact (fac_3n (f := f.fc) ‹_› ‹_›).symm | exact (fac_4y (f := f.fc) hny ‹_› ‹_›).symm | exact (fac_4n (f := f.fc) ‹_› ‹_›).symm | exact (fac_x (f := f.fc) ‹_› ‹_› ‹_› ‹_›).symm)
     ·refine RL.gT rfl (bF h21) ?_
      refine V (fA underlying50 0 rfl sizeOf3 e1_12) ?_
      refine RL.gT rfl (bF h21) ?_
      refine V (run_ld underlying3 rfl rfl (hH12.cell (i := 0) rfl (v := I _) rfl)) ?_
      refine RL.gT rfl (bF h21) ?_
      refine V (run_eql rfl rfl) ?_
      refine V (run_pickF (bF h21) (v := B _) rfl) ?_
      refine RL.nil ?_
      refine CW.condP rfl (fun h26 => ?_) (fun h26 => ?_)
      ·refine SR ?_
       refine V (fA underlying50 2 rfl sizeOf48 e1_12) ?_
       refine V (run_ldBR underlying48 rfl rfl rfl (hH12.blk (i := 0) rfl)) ?_
       refine RL.callP rfl hH12 (c_clearanceref03_Points _  _) (run_call1 call73 rfl) ?_
       intro w27 hH28
       refine V (run_eql rfl rfl) ?_
       refine V (aV (B _) rfl) ?_
       refine RL.nil ?_
       refine CW.ret ?_
       refine outP1 Tryz.results31 (congrArg B ?_) hH28.below
       first | exact (fac_no (f := f.fc) (named_no1 (by show ¬ (1 ≤ f.names.length ∧ f.names.length ≤ 64); omega))).symm | exact (fac_no (f := f.fc) (named_no2 (by show ¬ twice f.names < 0; omega))).symm | exact (fac_no (f := f.fc) (named_no3 h0 ‹_› (nt ‹_›))).symm | (have hny : namedF f.names = true := named_yes hn1 hn2 ‹¬ k < _› hg; first | exact (fac_12 (f := f.fc) hny (.inl ‹_›)).symm | exact (fac_12 (f := f.fc) hny (.inr ‹_›)).symm | exact (fac_3y (f := f.fc) hny ‹_› ‹_›).symm | exact (fac_3n (f := f.fc) ‹_› ‹_›).symm | exact (fac_4y (f := f.fc) hny ‹_› ‹_›).symm | exact (fac_4n (f := f.fc) ‹_› ‹_›).symm | exact (fac_x (f := f.fc) ‹_› ‹_› ‹_› ‹_›).symm)
      ·refine CW.skip ?_
       refine CW.seq ?_
       refine SR ?_
       refine V (fA underlying50 0 rfl sizeOf3 e1_12) ?_
       refine V (run_ld underlying3 rfl rfl (hH12.cell (i := 0) rfl (v := I _) rfl)) ?_
       refine V (run_eql rfl rfl) ?_
       refine RL.nil ?_
       refine CW.condP rfl (fun h31 => ?_) (fun h31 => ?_)
       ·refine SR ?_
        refine V (fA underlying50 2 rfl sizeOf48 e1_12) ?_
        refine V (fA underlying48 0 rfl sizeOf3 rfl) ?_
        refine V (run_ld underlying3 rfl rfl (hH12.cell (i := 0) rfl (v := I _) rfl)) ?_
        refine V (run_move e3_12) ?_
        refine V (run_eql rfl rfl) ?_
        refine V (mV (B _) rfl) ?_
        refine RL.splitP (dj := 52) rfl (fun h33 => ?_) (fun h33 => ?_)
        ·refine RL.gT rfl (bT h33) ?_
         refine V (fA underlying50 2 rfl sizeOf48 e1_12) ?_
         refine RL.gT rfl (bT h33) ?_
         refine V (run_ldBR underlying48 rfl rfl rfl (hH12.blk (i := 0) rfl)) ?_
         refine RL.gT rfl (bT h33) ?_
         refine RL.callP rfl hH12 (c_clearanceref05_Right _  _) (run_call1 call74 rfl) ?_
         intro w34 hH35
         refine V (run_pickT (bT h33) (v := B _) rfl) ?_
         refine V (aV (B _) rfl) ?_
         refine RL.nil ?_
         refine CW.ret ?_
         refine outP1 Tryz.results31 (congrArg B ?_) hH35.below
         first | exact (fac_no (f := f.fc) (named_no1 (by show ¬ (1 ≤ f.names.length ∧ f.names.length ≤ 64); omega))).symm | exact (fac_no (f := f.fc) (named_no2 (by show ¬ twice f.names < 0; omega))).symm | exact (fac_no (f := f.fc) (named_no3 h0 ‹_› (nt ‹_›))).symm | (have hny : namedF f.names = true := named_yes hn1 hn2 ‹¬ k < _› hg; first | exact (fac_12 (f := f.fc) hny (.inl ‹_›)).symm | exact (fac_12 (f := f.fc) hny (.inr ‹_›)).symm | exact (fac_3y (f := f.fc) hny ‹_› ‹_›).symm | exact (fac_3n (f := f.fc) ‹_› ‹_›).symm | exact (fac_4y (f := f.fc) hny ‹_› ‹_›).symm | exact (fac_4n (f := f.fc) ‹_› ‹_›).symm | exact (fac_x (f := f.fc) ‹_› ‹_› ‹_› ‹_›).symm)
        ·refine RL.gF rfl rfl (bF h33) rfl ?_
         refine RL.gF rfl rfl (bF h33) rfl ?_
         refine RL.gF rfl rfl (bF h33) rfl ?_
         refine V (run_pickF (bF h33) (v := B false) rfl) ?_
         refine V (aV (B _) rfl) ?_
         refine RL.nil ?_
         refine CW.ret ?_
         refine outP1 Tryz.results31 (congrArg B ?_) hH12.below
         first | exact (fac_no (f := f.fc) (named_no1 (by show ¬ (1 ≤ f.names.length ∧ f.names.length ≤ 64); omega))).symm | exact (fac_no (f := f.fc) (named_no2 (by show ¬ twice f.names < 0; omega))).symm | exact (fac_no (f := f.fc) (named_no3 h0 ‹_› (nt ‹_›))).symm | (have hny : namedF f.names = true := named_yes hn1 hn2 ‹¬ k < _› hg; first | exact (fac_12 (f := f.fc) hny (.inl ‹_›)).symm | exact (fac_12 (f := f.fc) hny (.inr ‹_›)).symm | exact (fac_3y (f := f.fc) hny ‹_› ‹_›).symm | exact (fac_3n (f := f.fc) ‹_› ‹_›).symm | exact (fac_4y (f := f.fc) hny ‹_› ‹_›).symm | exact (fac_4n (f := f.fc) ‹_› ‹_›).symm | exact (fac_x (f := f.fc) ‹_› ‹_› ‹_› ‹_›).symm)
       ·refine CW.skip ?_
        refine SR ?_
        refine V (fA underlying50 0 rfl sizeOf3 e1_12) ?_
        refine V (run_ld underlying3 rfl rfl (hH12.cell (i := 0) rfl (v := I _) rfl)) ?_
        refine V (run_eql rfl rfl) ?_
        refine V (mV (B _) rfl) ?_
        refine RL.splitP (dj := 60) rfl (fun h38 => ?_) (fun h38 => ?_)
        ·refine RL.gT rfl (bT h38) ?_
         refine V (fA underlying50 2 rfl sizeOf48 e1_12) ?_
         refine RL.gT rfl (bT h38) ?_
         refine V (fA underlying48 0 rfl sizeOf3 rfl) ?_
         refine RL.gT rfl (bT h38) ?_
         refine V (run_ld underlying3 rfl rfl (hH12.cell (i := 0) rfl (v := I _) rfl)) ?_
         refine RL.gT rfl (bT h38) ?_
         refine V (run_move e3_12) ?_
         refine RL.gT rfl (bT h38) ?_
         refine V (run_eql rfl rfl) ?_
         refine V (run_pickT (bT h38) (v := B _) rfl) ?_
         refine V (mV (B _) rfl) ?_
         refine RL.splitP (dj := 67) rfl (fun h40 => ?_) (fun h40 => ?_)
         ·refine RL.gT rfl (bT h40) ?_
          refine V (fA underlying50 2 rfl sizeOf48 e1_12) ?_
          refine RL.gT rfl (bT h40) ?_
          refine V (run_ldBR underlying48 rfl rfl rfl (hH12.blk (i := 0) rfl)) ?_
          refine RL.gT rfl (bT h40) ?_
          refine RL.callP rfl hH12 (c_clearanceref06_Lattice _  _) (run_call1 call75 rfl) ?_
          intro w41 hH42
          refine V (run_pickT (bT h40) (v := B _) rfl) ?_
          refine V (aV (B _) rfl) ?_
          refine RL.nil ?_
          refine CW.ret ?_
          refine outP1 Tryz.results31 (congrArg B ?_) hH42.below
          first | exact (fac_no (f := f.fc) (named_no1 (by show ¬ (1 ≤ f.names.length ∧ f.names.length ≤ 64); omega))).symm | exact (fac_no (f := f.fc) (named_no2 (by show ¬ twice f.names < 0; omega))).symm | exact (fac_no (f := f.fc) (named_no3 h0 ‹_› (nt ‹_›))).symm | (have hny : namedF f.names = true := named_yes hn1 hn2 ‹¬ k < _› hg; first | exact (fac_12 (f := f.fc) hny (.inl ‹_›)).symm | exact (fac_12 (f := f.fc) hny (.inr ‹_›)).symm | exact (fac_3y (f := f.fc) hny ‹_› ‹_›).symm | exact (fac_3n (f := f.fc) ‹_› ‹_›).symm | exact (fac_4y (f := f.fc) hny ‹_› ‹_›).symm | exact (fac_4n (f := f.fc) ‹_› ‹_›).symm | exact (fac_x (f := f.fc) ‹_› ‹_› ‹_› ‹_›).symm)
         ·refine RL.gF rfl rfl (bF h40) rfl ?_
          refine RL.gF rfl rfl (bF h40) rfl ?_
          refine RL.gF rfl rfl (bF h40) rfl ?_
          refine V (run_pickF (bF h40) (v := B false) rfl) ?_
          refine V (aV (B _) rfl) ?_
          refine RL.nil ?_
          refine CW.ret ?_
          refine outP1 Tryz.results31 (congrArg B ?_) hH12.below
          first | exact (fac_no (f := f.fc) (named_no1 (by show ¬ (1 ≤ f.names.length ∧ f.names.length ≤ 64); omega))).symm | exact (fac_no (f := f.fc) (named_no2 (by show ¬ twice f.names < 0; omega))).symm | exact (fac_no (f := f.fc) (named_no3 h0 ‹_› (nt ‹_›))).symm | (have hny : namedF f.names = true := named_yes hn1 hn2 ‹¬ k < _› hg; first | exact (fac_12 (f := f.fc) hny (.inl ‹_›)).symm | exact (fac_12 (f := f.fc) hny (.inr ‹_›)).symm | exact (fac_3y (f := f.fc) hny ‹_› ‹_›).symm | exact (fac_3n (f := f.fc) ‹_› ‹_›).symm | exact (fac_4y (f := f.fc) hny ‹_› ‹_›).symm | exact (fac_4n (f := f.fc) ‹_› ‹_›).symm | exact (fac_x (f := f.fc) ‹_› ‹_› ‹_› ‹_›).symm)
        ·refine RL.gF rfl rfl (bF h38) rfl ?_
         refine RL.gF rfl rfl (bF h38) rfl ?_
         refine RL.gF rfl rfl (bF h38) rfl ?_
         refine RL.gF rfl rfl (bF h38) rfl ?_
         refine RL.gF rfl rfl (bF h38) rfl ?_
         refine V (run_pickF (bF h38) (v := B false) rfl) ?_
         refine V (mV (B _) rfl) ?_
         refine RL.gF rfl rfl rfl rfl ?_
         refine RL.gF rfl rfl rfl rfl ?_
         refine RL.gF rfl rfl rfl rfl ?_
         refine V (run_pickF rfl (v := B false) rfl) ?_
         refine V (aV (B _) rfl) ?_
         refine RL.nil ?_
         refine CW.ret ?_
         refine outP1 Tryz.results31 (congrArg B ?_) hH12.below
         first | exact (fac_no (f := f.fc) (named_no1 (by show ¬ (1 ≤ f.names.length ∧ f.names.length ≤ 64); omega))).symm | exact (fac_no (f := f.fc) (named_no2 (by show ¬ twice f.names < 0; omega))).symm | exact (fac_no (f := f.fc) (named_no3 h0 ‹_› (nt ‹_›))).symm | (have hny : namedF f.names = true := named_yes hn1 hn2 ‹¬ k < _› hg; first | exact (fac_12 (f := f.fc) hny (.inl ‹_›)).symm | exact (fac_12 (f := f.fc) hny (.inr ‹_›)).symm | exact (fac_3y (f := f.fc) hny ‹_› ‹_›).symm | exact (fac_3n (f := f.fc) ‹_› ‹_›).symm | exact (fac_4y (f := f.fc) hny ‹_› ‹_›).symm | exact (fac_4n (f := f.fc) ‹_› ‹_›).symm | exact (fac_x (f := f.fc) ‹_› ‹_› ‹_› ‹_›).symm)

theorem c_clearanceref07_Right (s : Shp) (w : World) (hs : ShpV (Kw w) s) : Calls Tryz.prog 16 #[.agg (shpC s)] w (Pure (B (shR s.sh)) w) := by
 have hsl := sh_len s
 have hm := hs.facs.sl.small
 unfold maxLen at hm
 refine enter Tryz.func16 rfl Tryz.ntmps16 rfl ?_
 have hH := Hp.start w
 refine SR ?_
 refine RL.new rfl hH (f := fun b => (.pointer (some ⟨b, 0, none⟩))) (run_box (v := .agg _) rfl) ?_
 intro b3 w1 hH2
 refine V (aV (B false) rfl) ?_
 refine RL.nil ?_
 refine CW.seq ?_
 refine SR ?_
 refine V (fA underlying24 1 rfl sizeOf22 rfl) ?_
 refine V (run_ld underlying22 rfl rfl (hH2.cell (i := 0) rfl rfl)) ?_
 refine V (run_lenSl (hs.facs.sl.hp hH2) rfl underlying22 rfl) ?_
 refine V (run_lss rfl rfl) ?_
 refine V (mV (B _) rfl) ?_
 refine RL.splitP (dj := 8) rfl (fun h5 => ?_) (fun h5 => ?_)
 ·refine RL.gF rfl rfl (bT h5) rfl ?_
  refine RL.gF rfl rfl (bT h5) rfl ?_
  refine RL.gF rfl rfl (bT h5) rfl ?_
  refine RL.gF rfl rfl (bT h5) rfl ?_
  refine V (run_pickT (bT h5) (v := B true) rfl) ?_
  refine V (mV (B _) rfl) ?_
  refine RL.gF rfl rfl rfl rfl ?_
  refine RL.gF rfl rfl rfl rfl ?_
  refine RL.gF rfl rfl rfl rfl ?_
  refine RL.gF rfl rfl rfl rfl ?_
  refine RL.gU rfl rfl rfl ?_
  refine RL.gU rfl rfl rfl ?_
  refine RL.gU rfl rfl rfl ?_
  refine RL.gU rfl rfl rfl ?_
  refine RL.gF rfl rfl rfl rfl ?_
  refine V (run_pickT rfl (v := B true) rfl) ?_
  refine RL.nil ?_
  refine CW.condT rfl ?_
  refine SR ?_
  refine V (aV (B false) rfl) ?_
  refine RL.nil ?_
  refine CW.ret ?_
  refine outP1 Tryz.results16 (congrArg B ?_) hH2.below
  first | exact (shR_no3 (k := k) h0 (by omega) (by rw [sh_get]; exact nt ‹_›)).symm | exact (shR_yes (k := k) (by omega) hc2 (by omega) fun j a b => by rw [sh_get]; exact hg j a b).symm | exact (shR_no1 (by omega)).symm | exact (shR_no2 (by first | exact nt ‹_› | assumption) (by omega)).symm
 ·refine RL.gT rfl (bF h5) ?_
  refine V (fA underlying24 1 rfl sizeOf22 rfl) ?_
  refine RL.gT rfl (bF h5) ?_
  refine V (run_ld underlying22 rfl rfl (hH2.cell (i := 0) rfl rfl)) ?_
  refine RL.gT rfl (bF h5) ?_
  refine V (run_lenSl (hs.facs.sl.hp hH2) rfl underlying22 rfl) ?_
  refine RL.gT rfl (bF h5) ?_
  refine V (run_gtr rfl rfl) ?_
  refine V (run_pickF (bF h5) (v := B _) rfl) ?_
  refine V (mV (B _) rfl) ?_
  refine RL.splitP (dj := 14) rfl (fun h7 => ?_) (fun h7 => ?_)
  ·refine RL.gF rfl rfl (bT h7) rfl ?_
   refine RL.gF rfl rfl (bT h7) rfl ?_
   refine RL.gF rfl rfl (bT h7) rfl ?_
   refine RL.gF rfl rfl (bT h7) rfl ?_
   refine RL.gU rfl rfl rfl ?_
   refine RL.gU rfl rfl rfl ?_
   refine RL.gU rfl rfl rfl ?_
   refine RL.gU rfl rfl rfl ?_
   refine RL.gF rfl rfl (bT h7) rfl ?_
   refine V (run_pickT (bT h7) (v := B true) rfl) ?_
   refine RL.nil ?_
   refine CW.condT rfl ?_
   refine SR ?_
   refine V (aV (B false) rfl) ?_
   refine RL.nil ?_
   refine CW.ret ?_
   refine outP1 Tryz.results16 (congrArg B ?_) hH2.below
   first | exact (shR_no3 (k := k) h0 (by omega) (by rw [sh_get]; exact nt ‹_›)).symm | exact (shR_yes (k := k) (by omega) hc2 (by omega) fun j a b => by rw [sh_get]; exact hg j a b).symm | exact (shR_no1 (by omega)).symm | exact (shR_no2 (by first | exact nt ‹_› | assumption) (by omega)).symm
  ·refine RL.gT rfl (bF h7) ?_
   refine V (fA underlying24 0 rfl sizeOf4 rfl) ?_
   refine RL.gT rfl (bF h7) ?_
   refine V (run_ld underlying4 rfl rfl (hH2.cell (i := 0) rfl (v := B _) rfl)) ?_
   refine RL.gT rfl (bF h7) ?_
   refine V (run_not rfl) ?_
   refine RL.gT rfl (bF h7) ?_
   refine V (mV (B _) rfl) ?_
   refine RL.split (dj := 18) rfl (fun h10 => ?_) (fun h10 => ?_)
   ·refine RL.gT rfl (bR (c := true) h10) ?_
    refine V (fA underlying24 1 rfl sizeOf22 rfl) ?_
    refine RL.gT rfl (bR (c := true) h10) ?_
    refine V (run_ld underlying22 rfl rfl (hH2.cell (i := 0) rfl rfl)) ?_
    refine RL.gT rfl (bR (c := true) h10) ?_
    refine V (run_lenSl (hs.facs.sl.hp hH2) rfl underlying22 rfl) ?_
    refine RL.gT rfl (bR (c := true) h10) ?_
    refine V (run_neq rfl rfl) ?_
    refine RL.gT rfl (bF h7) ?_
    refine V (run_pickT (bR (c := true) h10) (v := B _) rfl) ?_
    refine V (run_pickF (bF h7) (v := B _) rfl) ?_
    refine RL.nil ?_
    refine CW.condP rfl (fun h12 => ?_) (fun h12 => ?_)
    ·refine SR ?_
     refine V (aV (B false) rfl) ?_
     refine RL.nil ?_
     refine CW.ret ?_
     refine outP1 Tryz.results16 (congrArg B ?_) hH2.below
     first | exact (shR_no3 (k := k) h0 (by omega) (by rw [sh_get]; exact nt ‹_›)).symm | exact (shR_yes (k := k) (by omega) hc2 (by omega) fun j a b => by rw [sh_get]; exact hg j a b).symm | exact (shR_no1 (by omega)).symm | exact (shR_no2 (by first | exact nt ‹_› | assumption) (by omega)).symm
    ·refine CW.skip ?_
     refine CW.seq ?_
     refine SR ?_
     refine V (aV (I 0) rfl) ?_
     refine RL.nil ?_
     refine CW.block ?_
     have hc2 : s.sh.tuple = true ∨ s.sh.facs.length = 1 := by first | exact .inl (nf ‹(!s.tuple) = false›) | exact .inl ‹s.tuple = true› | exact .inr (by omega)
     have hc1 : 1 ≤ s.facs.length ∧ s.facs.length ≤ 8 := by omega
     refine CW.loop (G := (Int)) (fun (k : Int) s' w' => (Fr [2, 3, 25, 26, 27, 28, 29, 30, 31, 32, 33, 34, 35, 36, 37, 38] _ s') ∧ (Hp w w' _) ∧ (s' 3 = I k) ∧ (0 ≤ k) ∧ (k ≤ s.facs.length) ∧ (∀ j : Int, 0 ≤ j → j < k → factorR (s.facs.getD j.toNat fac0).fc = true)) (fun (k : Int) => (s.facs.length - k).toNat) (0) ⟨Fr.refl _ _, hH2, rfl, (by omega), (by omega), fun j a b => absurd b (by omega)⟩ ?_
     rintro k sg13 w13 ⟨fr13, hH13, e3_13, h0, hk, hg⟩
     have e1_13 : sg13 1 = Pn _ _ := (fr13 1 rfl).trans rfl
     refine CW.seq ?_
     refine SR ?_
     refine V (run_move e3_13) ?_
     refine V (fA underlying24 1 rfl sizeOf22 e1_13) ?_
     refine V (run_ld underlying22 rfl rfl (hH13.cell (i := 0) rfl rfl)) ?_
     refine V (run_lenSl (hs.facs.sl.hp hH13) rfl underlying22 rfl) ?_
     refine V (run_lss rfl rfl) ?_
     refine RL.nil ?_
     refine CW.condP rfl (fun h15 => ?_) (fun h15 => ?_)
     ·refine CW.skip ?_
      refine CW.seq ?_
      refine CW.block ?_
      refine SR ?_
      refine V (fA underlying24 1 rfl sizeOf22 e1_13) ?_
      refine V (run_ld underlying22 rfl rfl (hH13.cell (i := 0) rfl rfl)) ?_
      refine V (run_move e3_13) ?_
      refine V (run_indexAddrS (hs.facs.sl.hp hH13) underlying22 sizeOf50 rfl rfl (by omega)) ?_
      refine V (run_ldE (dv := fac0) facL_len (hs.facs.sl.hp hH13) underlying50 rfl rfl rfl (by omega)) ?_
      refine RL.callP rfl hH13 (c_clearanceref07_factor _  _ ((hs.at (by omega) (by omega)).mono hH13.kw)) (run_call1 call31 rfl) ?_
      intro w16 hH17
      refine V (run_not rfl) ?_
      refine RL.nil ?_
      refine CW.cond rfl (fun h20 => ?_) (fun h20 => ?_)
      ·refine SR ?_
       refine V (aV (B false) rfl) ?_
       refine RL.nil ?_
       refine CW.ret ?_
       refine outP1 Tryz.results16 (congrArg B ?_) hH17.below
       first | exact (shR_no3 (k := k) h0 (by omega) (by rw [sh_get]; exact nt ‹_›)).symm | exact (shR_yes (k := k) (by omega) hc2 (by omega) fun j a b => by rw [sh_get]; exact hg j a b).symm | exact (shR_no1 (by omega)).symm | exact (shR_no2 (by first | exact nt ‹_› | assumption) (by omega)).symm
      ·refine CW.skip ?_
       refine CW.region ?_
       refine V (run_move e3_13) ?_
       refine V (run_add rfl rfl (by omega)) ?_
       refine V (aV (I _) rfl) ?_
       refine RL.nil ?_
       refine ⟨k + 1, ?_, fr13.u4.u4.u4.u1.u1.u1, hH17, (congrArg I (by first | rfl | omega)), ?_, ?_, ?_⟩
       ·((try dsimp only); omega)
       ·omega
       ·omega
       ·exact fun j a b => if e : j = k then e ▸ nf ‹_› else hg j a (by omega)
     ·refine CW.exit (id := 0) rfl ?_
      refine SR ?_
      refine V (aV (B true) rfl) ?_
      refine RL.nil ?_
      refine CW.ret ?_
      refine outP1 Tryz.results16 (congrArg B ?_) hH13.below
      first | exact (shR_no3 (k := k) h0 (by omega) (by rw [sh_get]; exact nt ‹_›)).symm | exact (shR_yes (k := k) (by omega) hc2 (by omega) fun j a b => by rw [sh_get]; exact hg j a b).symm | exact (shR_no1 (by omega)).symm | exact (shR_no2 (by first | exact nt ‹_› | assumption) (by omega)).symm
   ·refine RL.gF rfl rfl (bR (c := false) h10) rfl ?_
    refine RL.gF rfl rfl (bR (c := false) h10) rfl ?_
    refine RL.gF rfl rfl (bR (c := false) h10) rfl ?_
    refine RL.gF rfl rfl (bR (c := false) h10) rfl ?_
    refine RL.gT rfl (bF h7) ?_
    refine V (run_pickF (bR (c := false) h10) (v := B false) rfl) ?_
    refine V (run_pickF (bF h7) (v := B _) rfl) ?_
    refine RL.nil ?_
    refine CW.condF rfl ?_
    refine CW.skip ?_
    refine CW.seq ?_
    refine SR ?_
    refine V (aV (I 0) rfl) ?_
    refine RL.nil ?_
    refine CW.block ?_
    have hc2 : s.sh.tuple = true ∨ s.sh.facs.length = 1 := by first | exact .inl (nf ‹(!s.tuple) = false›) | exact .inl ‹s.tuple = true› | exact .inr (by omega)
    have hc1 : 1 ≤ s.facs.length ∧ s.facs.length ≤ 8 := by omega
    refine CW.loop (G := (Int)) (fun (k : Int) s' w' => (Fr [2, 3, 25, 26, 27, 28, 29, 30, 31, 32, 33, 34, 35, 36, 37, 38] _ s') ∧ (Hp w w' _) ∧ (s' 3 = I k) ∧ (0 ≤ k) ∧ (k ≤ s.facs.length) ∧ (∀ j : Int, 0 ≤ j → j < k → factorR (s.facs.getD j.toNat fac0).fc = true)) (fun (k : Int) => (s.facs.length - k).toNat) (0) ⟨Fr.refl _ _, hH2, rfl, (by omega), (by omega), fun j a b => absurd b (by omega)⟩ ?_
    rintro k sg21 w21 ⟨fr21, hH21, e3_21, h0, hk, hg⟩
    have e1_21 : sg21 1 = Pn _ _ := (fr21 1 rfl).trans rfl
    refine CW.seq ?_
    refine SR ?_
    refine V (run_move e3_21) ?_
    refine V (fA underlying24 1 rfl sizeOf22 e1_21) ?_
    refine V (run_ld underlying22 rfl rfl (hH21.cell (i := 0) rfl rfl)) ?_
    refine V (run_lenSl (hs.facs.sl.hp hH21) rfl underlying22 rfl) ?_
    refine V (run_lss rfl rfl) ?_
    refine RL.nil ?_
    refine CW.condP rfl (fun h23 => ?_) (fun h23 => ?_)
    ·refine CW.skip ?_
     refine CW.seq ?_
     refine CW.block ?_
     refine SR ?_
     refine V (fA underlying24 1 rfl sizeOf22 e1_21) ?_
     refine V (run_ld underlying22 rfl rfl (hH21.cell (i := 0) rfl rfl)) ?_
     refine V (run_move e3_21) ?_
     refine V (run_indexAddrS (hs.facs.sl.hp hH21) underlying22 sizeOf50 rfl rfl (by omega)) ?_
     refine V (run_ldE (dv := fac0) facL_len (hs.facs.sl.hp hH21) underlying50 rfl rfl rfl (by omega)) ?_
     refine RL.callP rfl hH21 (c_clearanceref07_factor _  _ ((hs.at (by omega) (by omega)).mono hH21.kw)) (run_call1 call31 rfl) ?_
     intro w24 hH25
     refine V (run_not rfl) ?_
     refine RL.nil ?_
     refine CW.cond rfl (fun h28 => ?_) (fun h28 => ?_)
     ·refine SR ?_
      refine V (aV (B false) rfl) ?_
      refine RL.nil ?_
      refine CW.ret ?_
      refine outP1 Tryz.results16 (congrArg B ?_) hH25.below
      first | exact (shR_no3 (k := k) h0 (by omega) (by rw [sh_get]; exact nt ‹_›)).symm | exact (shR_yes (k := k) (by omega) hc2 (by omega) fun j a b => by rw [sh_get]; exact hg j a b).symm | exact (shR_no1 (by omega)).symm | exact (shR_no2 (by first | exact nt ‹_› | assumption) (by omega)).symm
     ·refine CW.skip ?_
      refine CW.region ?_
      refine V (run_move e3_21) ?_
      refine V (run_add rfl rfl (by omega)) ?_
      refine V (aV (I _) rfl) ?_
      refine RL.nil ?_
      refine ⟨k + 1, ?_, fr21.u4.u4.u4.u1.u1.u1, hH25, (congrArg I (by first | rfl | omega)), ?_, ?_, ?_⟩
      ·((try dsimp only); omega)
      ·omega
      ·omega
      ·exact fun j a b => if e : j = k then e ▸ nf ‹_› else hg j a (by omega)
    ·refine CW.exit (id := 0) rfl ?_
     refine SR ?_
     refine V (aV (B true) rfl) ?_
     refine RL.nil ?_
     refine CW.ret ?_
     refine outP1 Tryz.results16 (congrArg B ?_) hH21.below
     first | exact (shR_no3 (k := k) h0 (by omega) (by rw [sh_get]; exact nt ‹_›)).symm | exact (shR_yes (k := k) (by omega) hc2 (by omega) fun j a b => by rw [sh_get]; exact hg j a b).symm | exact (shR_no1 (by omega)).symm | exact (shR_no2 (by first | exact nt ‹_› | assumption) (by omega)).symm

theorem c_clearancelaw07_Big (s : Shp) (w : World) (hs : ShpV (Kw w) s) : Calls Tryz.prog 6 #[.agg (shpC s)] w (Pure (B (bigS s.sh)) w) := by
 have hsl := sh_len s
 have hm := hs.facs.sl.small
 unfold maxLen at hm
 refine enter Tryz.func6 rfl Tryz.ntmps6 rfl ?_
 have hH := Hp.start w
 refine SR ?_
 refine RL.new rfl hH (f := fun b => (.pointer (some ⟨b, 0, none⟩))) (run_box (v := .agg _) rfl) ?_
 intro b3 w1 hH2
 refine V (aV (B false) rfl) ?_
 refine RL.nil ?_
 refine CW.seq ?_
 refine SR ?_
 refine V (fA underlying24 1 rfl sizeOf22 rfl) ?_
 refine V (run_ld underlying22 rfl rfl (hH2.cell (i := 0) rfl rfl)) ?_
 refine V (run_lenSl (hs.facs.sl.hp hH2) rfl underlying22 rfl) ?_
 refine V (run_gtr rfl rfl) ?_
 refine RL.nil ?_
 refine CW.condP rfl (fun h5 => ?_) (fun h5 => ?_)
 ·refine SR ?_
  refine V (aV (B true) rfl) ?_
  refine RL.nil ?_
  refine CW.ret ?_
  refine outP1 Tryz.results6 (congrArg B ?_) hH2.below
  first | exact (big_1 (s := s.sh) (by omega)).symm | exact (big_2 (s := s.sh) (k := k) h0 (by omega) (by rw [sh_get]; first | exact bigN_1 (by show 70 < (s.facs.getD k.toNat fac0).names.length; omega) | exact bigN_2 i0 ‹_› (by show 40 < ((s.facs.getD k.toNat fac0).names.getD i.toNat tx0).size; omega))).symm | exact (big_no (s := s.sh) (k := k) (by omega) (by omega) fun j a b => by rw [sh_get]; exact hg j a b).symm
 ·refine CW.skip ?_
  refine CW.seq ?_
  refine SR ?_
  refine V (aV (I 0) rfl) ?_
  refine RL.nil ?_
  refine CW.block ?_
  refine CW.loop (G := (Int)) (fun (k : Int) s' w' => (Fr [2, 3, 4, 5, 10, 11, 12, 13, 14, 15, 16, 17, 18, 19, 20, 21, 22, 23, 24, 25, 26, 27, 28, 29, 30, 31, 32, 33, 34, 35, 36, 37, 38, 39] _ s') ∧ (Hp w w' _) ∧ (s' 3 = I k) ∧ (0 ≤ k) ∧ (k ≤ s.facs.length) ∧ (∀ j : Int, 0 ≤ j → j < k → bigN (s.facs.getD j.toNat fac0).names = false)) (fun (k : Int) => (s.facs.length - k).toNat) (0) ⟨Fr.refl _ _, hH2, rfl, (by omega), (by omega), fun j a b => absurd b (by omega)⟩ ?_
  rintro k sg6 w6 ⟨fr6, hH6, e3_6, h0, hk, hg⟩
  have e1_6 : sg6 1 = Pn _ _ := (fr6 1 rfl).trans rfl
  refine CW.seq ?_
  refine SR ?_
  refine V (run_move e3_6) ?_
  refine V (fA underlying24 1 rfl sizeOf22 e1_6) ?_
  refine V (run_ld underlying22 rfl rfl (hH6.cell (i := 0) rfl rfl)) ?_
  refine V (run_lenSl (hs.facs.sl.hp hH6) rfl underlying22 rfl) ?_
  refine V (run_lss rfl rfl) ?_
  refine RL.nil ?_
  refine CW.condP rfl (fun h8 => ?_) (fun h8 => ?_)
  ·refine CW.skip ?_
   refine CW.seq ?_
   refine CW.block ?_
   refine SR ?_
   refine V (fA underlying24 1 rfl sizeOf22 e1_6) ?_
   refine V (run_ld underlying22 rfl rfl (hH6.cell (i := 0) rfl rfl)) ?_
   refine V (run_move e3_6) ?_
   refine V (run_indexAddrS (hs.facs.sl.hp hH6) underlying22 sizeOf50 rfl rfl (by omega)) ?_
   refine V (run_ldE (dv := fac0) facL_len (hs.facs.sl.hp hH6) underlying50 rfl rfl rfl (by omega)) ?_
   refine RL.new rfl hH6 (f := fun b => (.pointer (some ⟨b, 0, none⟩))) (run_alloc zero_fac) ?_
   intro b11 w9 hH10
   refine RL.set hH10 (i := 0) rfl (run_stFac (hs.at (by omega) (by omega)) rfl rfl rfl (hH10.blk (i := 0) rfl)) ?_
   intro w12 hH13
   simp only [z0, z1] at hH13
   refine RL.nil ?_
   refine CW.seq ?_
   refine SR ?_
   refine V (fA underlying50 1 rfl sizeOf45 rfl) ?_
   refine V (run_ld underlying45 rfl rfl (hH13.cell (i := 0) rfl rfl)) ?_
   refine V (run_lenSl ((hs.at (by omega) (by omega)).names.sl.hp hH13) rfl underlying45 rfl) ?_
   refine V (run_gtr rfl rfl) ?_
   refine RL.nil ?_
   refine CW.condP rfl (fun h15 => ?_) (fun h15 => ?_)
   ·refine SR ?_
    refine V (aV (B true) rfl) ?_
    refine RL.nil ?_
    refine CW.ret ?_
    refine outP1 Tryz.results6 (congrArg B ?_) hH13.below
    first | exact (big_1 (s := s.sh) (by omega)).symm | exact (big_2 (s := s.sh) (k := k) h0 (by omega) (by rw [sh_get]; first | exact bigN_1 (by show 70 < (s.facs.getD k.toNat fac0).names.length; omega) | exact bigN_2 i0 ‹_› (by show 40 < ((s.facs.getD k.toNat fac0).names.getD i.toNat tx0).size; omega))).symm | exact (big_no (s := s.sh) (k := k) (by omega) (by omega) fun j a b => by rw [sh_get]; exact hg j a b).symm
   ·refine CW.skip ?_
    refine SR ?_
    refine V (aV (I 0) rfl) ?_
    refine RL.nil ?_
    refine CW.block ?_
    have hnb : (s.facs.getD k.toNat fac0).names.length ≤ 70 := by omega
    refine CW.loop (G := (Int)) (fun (i : Int) s' w' => (Fr [2, 5, 26, 27, 28, 29, 30, 31, 32, 33, 34, 35, 36, 37, 38, 39] _ s') ∧ (Hp w w' _) ∧ (s' 5 = I i) ∧ (0 ≤ i) ∧ (i ≤ (s.facs.getD k.toNat fac0).names.length) ∧ (∀ j : Int, 0 ≤ j → j < i → ¬ 40 < ((s.facs.getD k.toNat fac0).names.getD j.toNat tx0).size)) (fun (i : Int) => ((s.facs.getD k.toNat fac0).names.length - i).toNat) (0) ⟨Fr.refl _ _, hH13, rfl, (by omega), (by omega), fun j a b => absurd b (by omega)⟩ ?_
    rintro i sg16 w16 ⟨fr16, hH16, e5_16, i0, i1, hn⟩
    have e1_16 := (fr16 1 rfl).trans e1_6
    have e3_16 := (fr16 3 rfl).trans e3_6
    have e4_16 : sg16 4 = Pn _ _ := (fr16 4 rfl).trans rfl
    have e10_16 : sg16 10 = I _ := (fr16 10 rfl).trans rfl
    have e11_16 : sg16 11 = Pn _ _ := (fr16 11 rfl).trans rfl
    have e12_16 := (fr16 12 rfl).trans (by conv => lhs; whnf)
    have e13_16 : sg16 13 = I _ := (fr16 13 rfl).trans rfl
    have e14_16 : sg16 14 = B _ := (fr16 14 rfl).trans rfl
    have e17_16 : sg16 17 = Pn _ _ := (fr16 17 rfl).trans rfl
    have e18_16 := (fr16 18 rfl).trans (by conv => lhs; whnf)
    have e19_16 : sg16 19 = I _ := (fr16 19 rfl).trans rfl
    have e20_16 : sg16 20 = Pn _ _ := (fr16 20 rfl).trans rfl
    have e21_16 : sg16 21 = .agg _ := (fr16 21 rfl).trans rfl
    have e22_16 : sg16 22 = Pn _ _ := (fr16 22 rfl).trans rfl
    have e23_16 := (fr16 23 rfl).trans (by conv => lhs; whnf)
    have e24_16 : sg16 24 = I _ := (fr16 24 rfl).trans rfl
    have e25_16 : sg16 25 = B _ := (fr16 25 rfl).trans rfl
    refine CW.seq ?_
    refine SR ?_
    refine V (run_move e5_16) ?_
    refine V (fA underlying50 1 rfl sizeOf45 e4_16) ?_
    refine V (run_ld underlying45 rfl rfl (hH16.cell (i := 0) rfl rfl)) ?_
    refine V (run_lenSl ((hs.at (by omega) (by omega)).names.sl.hp hH16) rfl underlying45 rfl) ?_
    refine V (run_lss rfl rfl) ?_
    refine RL.nil ?_
    refine CW.condP rfl (fun h18 => ?_) (fun h18 => ?_)
    ·refine CW.skip ?_
     refine CW.seq ?_
     refine CW.block ?_
     refine SR ?_
     refine V (fA underlying50 1 rfl sizeOf45 e4_16) ?_
     refine V (run_ld underlying45 rfl rfl (hH16.cell (i := 0) rfl rfl)) ?_
     refine V (run_move e5_16) ?_
     refine V (run_indexAddrS ((hs.at (by omega) (by omega)).names.sl.hp hH16) underlying45 sizeOf9 rfl rfl (by omega)) ?_
     refine V (run_ld underlying9 rfl rfl (((hs.at (by omega) (by omega)).names.sl.hp hH16).cell _ _ (txL_at (by omega)))) ?_
     refine V (run_lenStr rfl underlying9 rfl) ?_
     refine V (run_gtr rfl rfl) ?_
     refine RL.nil ?_
     refine CW.condP rfl (fun h20 => ?_) (fun h20 => ?_)
     ·refine SR ?_
      refine V (aV (B true) rfl) ?_
      refine RL.nil ?_
      refine CW.ret ?_
      refine outP1 Tryz.results6 (congrArg B ?_) hH16.below
      first | exact (big_1 (s := s.sh) (by omega)).symm | exact (big_2 (s := s.sh) (k := k) h0 (by omega) (by rw [sh_get]; first | exact bigN_1 (by show 70 < (s.facs.getD k.toNat fac0).names.length; omega) | exact bigN_2 i0 ‹_› (by show 40 < ((s.facs.getD k.toNat fac0).names.getD i.toNat tx0).size; omega))).symm | exact (big_no (s := s.sh) (k := k) (by omega) (by omega) fun j a b => by rw [sh_get]; exact hg j a b).symm
     ·refine CW.skip ?_
      refine CW.region ?_
      refine V (run_move e5_16) ?_
      refine V (run_add rfl rfl (by omega)) ?_
      refine V (aV (I _) rfl) ?_
      refine RL.nil ?_
      refine ⟨i + 1, ?_, fr16.u4.u4.u4.u1.u1.u1, hH16, (congrArg I (by first | rfl | omega)), ?_, ?_, ?_⟩
      ·((try dsimp only); omega)
      ·omega
      ·omega
      ·exact fun j a b => if e : j = i then e ▸ (by omega) else hn j a (by omega)
    ·refine CW.exit (id := 2) rfl ?_
     refine CW.region ?_
     refine V (run_move e3_16) ?_
     refine V (run_add rfl rfl (by omega)) ?_
     refine V (aV (I _) rfl) ?_
     refine RL.nil ?_
     refine ⟨k + 1, ?_, (((fr6.u4.u4.u4.u4).t fr16 rfl)).u4.u4, (hH16.sub (sQ sR)), (congrArg I (by first | rfl | omega)), ?_, ?_, ?_⟩
     ·((try dsimp only); omega)
     ·omega
     ·omega
     ·exact fun j a b => if e : j = k then e ▸ bigN_no (by omega) ‹¬ i < _› hn else hg j a (by omega)
  ·refine CW.exit (id := 0) rfl ?_
   refine SR ?_
   refine V (aV (B false) rfl) ?_
   refine RL.nil ?_
   refine CW.ret ?_
   refine outP1 Tryz.results6 (congrArg B ?_) hH6.below
   first | exact (big_1 (s := s.sh) (by omega)).symm | exact (big_2 (s := s.sh) (k := k) h0 (by omega) (by rw [sh_get]; first | exact bigN_1 (by show 70 < (s.facs.getD k.toNat fac0).names.length; omega) | exact bigN_2 i0 ‹_› (by show 40 < ((s.facs.getD k.toNat fac0).names.getD i.toNat tx0).size; omega))).symm | exact (big_no (s := s.sh) (k := k) (by omega) (by omega) fun j a b => by rw [sh_get]; exact hg j a b).symm

theorem c_term_right (v : Value) (l : List Wd) (w : World) (hs : Sl w v 2 l.length (l.flatMap wdL)) : Calls Tryz.prog 38 #[v] w (Pure (B (wordsR l)) w) := by
 have hm := hs.small
 unfold maxLen at hm
 refine enter Tryz.func38 rfl Tryz.ntmps38 rfl ?_
 have hH := Hp.start w
 refine SR ?_
 refine V (aV (B false) rfl) ?_
 refine RL.nil ?_
 refine CW.seq ?_
 refine SR ?_
 refine V (run_move (by conv => lhs; whnf)) ?_
 refine V (run_lenSl (hs.hp hH) rfl underlying25 rfl) ?_
 refine V (mV (I 0) rfl) ?_
 refine RL.nil ?_
 refine CW.block ?_
 refine CW.loop (G := (Int)) (fun (k : Int) s' w' => (Fr [2, 4, 7, 8, 9, 10, 11, 12, 13, 14, 15] _ s') ∧ (Hp w w' _) ∧ (s' 7 = I k) ∧ (0 ≤ k) ∧ (k ≤ l.length) ∧ (∀ j : Int, 0 ≤ j → j < k → nameR (l.getD j.toNat wd0).text = true)) (fun (k : Int) => (l.length - k).toNat) (0) ⟨Fr.refl _ _, hH, rfl, (by omega), (by omega), fun j a b => absurd b (by omega)⟩ ?_
 rintro k sg1 w1 ⟨fr1, hH1, e7_1, h0, hk, hg⟩
 have e5_1 := (fr1 5 rfl).trans (by conv => lhs; whnf)
 have e6_1 : sg1 6 = I _ := (fr1 6 rfl).trans rfl
 refine SR ?_
 refine V (run_lss e7_1 e6_1) ?_
 refine RL.nil ?_
 refine CW.seq ?_
 refine CW.condP rfl (fun h3 => ?_) (fun h3 => ?_)
 ·refine CW.skip ?_
  refine CW.seq ?_
  refine CW.block ?_
  refine SR ?_
  refine V (run_indexAddrS (hs.hp hH1) underlying25 sizeOf53 e5_1 e7_1 (by omega)) ?_
  refine V (run_ldE (dv := wd0) wdL_len (hs.hp hH1) underlying53 rfl rfl rfl (by omega)) ?_
  refine RL.new rfl hH1 (f := fun b => (.pointer (some ⟨b, 0, none⟩))) (run_alloc Tryz.zeroValue53) ?_
  intro b6 w4 hH5
  refine RL.set hH5 (i := 0) rfl (run_stW (c' := (wdL _).toArray) rfl rfl rfl (by simp [wdL, Value.oneCell']) (hH5.blk (i := 0) rfl) rfl) ?_
  intro w7 hH8
  simp only [z0, z1] at hH8
  refine RL.nil ?_
  refine SR ?_
  refine V (fA underlying53 0 rfl sizeOf9 rfl) ?_
  refine V (run_ld underlying9 rfl rfl (hH8.cell (i := 0) rfl (v := .string _) rfl)) ?_
  refine RL.callP rfl hH8 (c_name_Right _  _) (run_call1 call86 rfl) ?_
  intro w9 hH10
  refine V (run_not rfl) ?_
  refine RL.nil ?_
  refine CW.cond rfl (fun h13 => ?_) (fun h13 => ?_)
  ·refine SR ?_
   refine V (aV (B false) rfl) ?_
   refine RL.nil ?_
   refine CW.ret ?_
   refine outP1 Tryz.results38 (congrArg B ?_) hH10.below
   first | exact (all_no (d := wd0) (P := fun x : Wd => nameR x.text) h0 ‹k < _› (nt ‹(!nameR _) = true›)).symm | exact (all_yes (d := wd0) (P := fun x : Wd => nameR x.text) ‹¬ k < _› hg).symm
  ·refine CW.skip ?_
   refine CW.region ?_
   refine V (run_add e7_1 rfl (by omega)) ?_
   refine V (mV (I _) rfl) ?_
   refine RL.nil ?_
   refine ⟨k + 1, ?_, fr1.u4.u4.u1.u1, (hH10.sub (sQ sR)), (congrArg I (by first | rfl | omega)), ?_, ?_, ?_⟩
   ·((try dsimp only); omega)
   ·omega
   ·omega
   ·exact fun j a b => if e : j = k then e ▸ nf ‹(!nameR _) = false› else hg j a (by omega)
 ·refine CW.exit (id := 0) rfl ?_
  refine SR ?_
  refine V (aV (B true) rfl) ?_
  refine RL.nil ?_
  refine CW.ret ?_
  refine outP1 Tryz.results38 (congrArg B ?_) hH1.below
  first | exact (all_no (d := wd0) (P := fun x : Wd => nameR x.text) h0 ‹k < _› (nt ‹(!nameR _) = true›)).symm | exact (all_yes (d := wd0) (P := fun x : Wd => nameR x.text) ‹¬ k < _› hg).symm

theorem c_clearanceref10_right (v : Value) (l : List Wd) (w : World) (hs : Sl w v 2 l.length (l.flatMap wdL)) : Calls Tryz.prog 33 #[v] w (Pure (B (wordsR l)) w) := by
 have hm := hs.small
 unfold maxLen at hm
 refine enter Tryz.func33 rfl Tryz.ntmps33 rfl ?_
 have hH := Hp.start w
 refine SR ?_
 refine V (aV (B false) rfl) ?_
 refine RL.nil ?_
 refine CW.seq ?_
 refine SR ?_
 refine V (aV (I 0) rfl) ?_
 refine RL.nil ?_
 refine CW.block ?_
 refine CW.loop (G := (Int)) (fun (k : Int) s' w' => (Fr [2, 3, 4, 5, 6, 7, 8, 9, 10, 11, 12, 13, 14, 15, 16] _ s') ∧ (Hp w w' _) ∧ (s' 3 = I k) ∧ (0 ≤ k) ∧ (k ≤ l.length) ∧ (∀ j : Int, 0 ≤ j → j < k → nameR (l.getD j.toNat wd0).text = true)) (fun (k : Int) => (l.length - k).toNat) (0) ⟨Fr.refl _ _, hH, rfl, (by omega), (by omega), fun j a b => absurd b (by omega)⟩ ?_
 rintro k sg1 w1 ⟨fr1, hH1, e3_1, h0, hk, hg⟩
 have e0_1 := (fr1 0 rfl).trans (by conv => lhs; whnf)
 refine CW.seq ?_
 refine SR ?_
 refine V (run_move e3_1) ?_
 refine V (run_move e0_1) ?_
 refine V (run_lenSl (hs.hp hH1) rfl underlying25 rfl) ?_
 refine V (run_lss rfl rfl) ?_
 refine RL.nil ?_
 refine CW.condP rfl (fun h3 => ?_) (fun h3 => ?_)
 ·refine CW.skip ?_
  refine CW.seq ?_
  refine CW.block ?_
  refine SR ?_
  refine V (run_move e0_1) ?_
  refine V (run_move e3_1) ?_
  refine V (run_indexAddrS (hs.hp hH1) underlying25 sizeOf53 rfl rfl (by omega)) ?_
  refine V (fA underlying53 0 rfl sizeOf9 rfl) ?_
  refine V (run_ldE1 (dv := wd0) (off := 0) wdL_len (hs.hp hH1) underlying9 rfl rfl (by omega) rfl) ?_
  refine RL.callP rfl hH1 (c_clearanceref02_Right _  _) (run_call1 call32 rfl) ?_
  intro w4 hH5
  refine V (run_not rfl) ?_
  refine RL.nil ?_
  refine CW.cond rfl (fun h8 => ?_) (fun h8 => ?_)
  ·refine SR ?_
   refine V (aV (B false) rfl) ?_
   refine RL.nil ?_
   refine CW.ret ?_
   refine outP1 Tryz.results33 (congrArg B ?_) hH5.below
   first | exact (all_no (d := wd0) (P := fun x : Wd => nameR x.text) h0 ‹k < _› (nt ‹(!nameR _) = true›)).symm | exact (all_yes (d := wd0) (P := fun x : Wd => nameR x.text) ‹¬ k < _› hg).symm
  ·refine CW.skip ?_
   refine CW.region ?_
   refine V (run_move e3_1) ?_
   refine V (run_add rfl rfl (by omega)) ?_
   refine V (aV (I _) rfl) ?_
   refine RL.nil ?_
   refine ⟨k + 1, ?_, fr1.u4.u4.u4.u1.u1, hH5, (congrArg I (by first | rfl | omega)), ?_, ?_, ?_⟩
   ·((try dsimp only); omega)
   ·omega
   ·omega
   ·exact fun j a b => if e : j = k then e ▸ nf ‹(!nameR _) = false› else hg j a (by omega)
 ·refine CW.exit (id := 0) rfl ?_
  refine SR ?_
  refine V (aV (B true) rfl) ?_
  refine RL.nil ?_
  refine CW.ret ?_
  refine outP1 Tryz.results33 (congrArg B ?_) hH1.below
  first | exact (all_no (d := wd0) (P := fun x : Wd => nameR x.text) h0 ‹k < _› (nt ‹(!nameR _) = true›)).symm | exact (all_yes (d := wd0) (P := fun x : Wd => nameR x.text) ‹¬ k < _› hg).symm

theorem c_term_bare (n : NodeR) (w : World) (hn : NodeV (Kw w) n) : Calls Tryz.prog 39 #[.agg (nodeL n).toArray] w (Pure (B (decide (n.text = tx0 ∧ n.names.length = 0))) w) := by
 refine enter Tryz.func39 rfl Tryz.ntmps39 rfl ?_
 have hH := Hp.start w
 refine SR ?_
 refine RL.new rfl hH (f := fun b => (.pointer (some ⟨b, 0, none⟩))) (run_box (v := .agg _) rfl) ?_
 intro b3 w1 hH2
 refine V (aV (B false) rfl) ?_
 refine RL.nil ?_
 refine SR ?_
 refine V (fA underlying28 2 rfl sizeOf9 rfl) ?_
 refine V (run_ld underlying9 rfl rfl (hH2.cell (i := 0) rfl (v := .string _) rfl)) ?_
 refine V (run_eqlS rfl rfl) ?_
 refine V (mV (B _) rfl) ?_
 refine RL.splitP (dj := 6) rfl (fun h5 => ?_) (fun h5 => ?_)
 ·refine RL.gT rfl (bT h5) ?_
  refine V (fA underlying28 3 rfl sizeOf25 rfl) ?_
  refine RL.gT rfl (bT h5) ?_
  refine V (run_ldV (hn.names_.sl.hp hH2) underlying25 rfl rfl (hH2.cell (i := 0) rfl rfl)) ?_
  refine RL.gT rfl (bT h5) ?_
  refine V (run_lenSl (hn.names_.sl.hp hH2) rfl underlying25 rfl) ?_
  refine RL.gT rfl (bT h5) ?_
  refine V (run_eql rfl rfl) ?_
  refine V (run_pickT (bT h5) (v := B _) rfl) ?_
  refine V (aV (B _) rfl) ?_
  refine RL.nil ?_
  refine CW.ret ?_
  refine outP1 Tryz.results39 (congrArg B ?_) hH2.below
  (simp [*])
 ·refine RL.gF rfl rfl (bF h5) rfl ?_
  refine RL.gF rfl rfl (bF h5) rfl ?_
  refine RL.gF rfl rfl (bF h5) rfl ?_
  refine RL.gF rfl rfl (bF h5) rfl ?_
  refine V (run_pickF (bF h5) (v := B false) rfl) ?_
  refine V (aV (B _) rfl) ?_
  refine RL.nil ?_
  refine CW.ret ?_
  refine outP1 Tryz.results39 (congrArg B ?_) hH2.below
  (simp [*])

theorem c_term_leaf (n : NodeR) (w : World) (hn : NodeV (Kw w) n) : Calls Tryz.prog 37 #[.agg (nodeL n).toArray] w (Pure (B (nameR n.text && decide (n.names.length = 0 ∧ n.kids.length = 0))) w) := by
 have hm1 := hn.kids_.small
 have hm2 := hn.names_.small
 unfold maxLen at hm1 hm2
 refine enter Tryz.func37 rfl Tryz.ntmps37 rfl ?_
 have hH := Hp.start w
 refine SR ?_
 refine RL.new rfl hH (f := fun b => (.pointer (some ⟨b, 0, none⟩))) (run_box (v := .agg _) rfl) ?_
 intro b3 w1 hH2
 refine V (aV (B false) rfl) ?_
 refine RL.nil ?_
 refine SR ?_
 refine V (fA underlying28 2 rfl sizeOf9 rfl) ?_
 refine V (run_ld underlying9 rfl rfl (hH2.cell (i := 0) rfl (v := .string _) rfl)) ?_
 refine RL.callP rfl hH2 (c_name_Right _  _) (run_call1 call86 rfl) ?_
 intro w4 hH5
 refine V (mV (B _) rfl) ?_
 refine RL.split (dj := 6) rfl (fun h7 => ?_) (fun h7 => ?_)
 ·refine RL.gT rfl (bR (c := true) h7) ?_
  refine V (fA underlying28 3 rfl sizeOf25 rfl) ?_
  refine RL.gT rfl (bR (c := true) h7) ?_
  refine V (run_ldV (hn.names_.sl.hp hH5) underlying25 rfl rfl (hH5.cell (i := 0) rfl rfl)) ?_
  refine RL.gT rfl (bR (c := true) h7) ?_
  refine V (run_lenSl (hn.names_.sl.hp hH5) rfl underlying25 rfl) ?_
  refine RL.gT rfl (bR (c := true) h7) ?_
  refine V (fA underlying28 4 rfl sizeOf26 rfl) ?_
  refine RL.gT rfl (bR (c := true) h7) ?_
  refine V (run_ldV (hn.kids_.sl.hp hH5) underlying26 rfl rfl (hH5.cell (i := 0) rfl rfl)) ?_
  refine RL.gT rfl (bR (c := true) h7) ?_
  refine V (run_lenSl (hn.kids_.sl.hp hH5) rfl underlying26 rfl) ?_
  refine RL.gT rfl (bR (c := true) h7) ?_
  refine V (run_addW rfl rfl) ?_
  refine RL.gT rfl (bR (c := true) h7) ?_
  refine V (run_eql rfl rfl) ?_
  refine V (run_pickT (bR (c := true) h7) (v := B _) rfl) ?_
  refine V (aV (B _) rfl) ?_
  refine RL.nil ?_
  refine CW.ret ?_
  refine outP1 Tryz.results37 (congrArg B ?_) hH5.below
  first | (rw [wrap_len hm2 hm1]; simp [*]; done) | (simp [*]; done)
 ·refine RL.gF rfl rfl (bR (c := false) h7) rfl ?_
  refine RL.gF rfl rfl (bR (c := false) h7) rfl ?_
  refine RL.gF rfl rfl (bR (c := false) h7) rfl ?_
  refine RL.gF rfl rfl (bR (c := false) h7) rfl ?_
  refine RL.gF rfl rfl (bR (c := false) h7) rfl ?_
  refine RL.gF rfl rfl (bR (c := false) h7) rfl ?_
  refine RL.gF rfl rfl (bR (c := false) h7) rfl ?_
  refine RL.gF rfl rfl (bR (c := false) h7) rfl ?_
  refine V (run_pickF (bR (c := false) h7) (v := B false) rfl) ?_
  refine V (aV (B _) rfl) ?_
  refine RL.nil ?_
  refine CW.ret ?_
  refine outP1 Tryz.results37 (congrArg B ?_) hH5.below
  first | (rw [wrap_len hm2 hm1]; simp [*]; done) | (simp [*]; done)

theorem c_term_isRule (n : NodeR) (w : World) (hn : NodeV (Kw w) n) : Calls Tryz.prog 41 #[.agg (nodeL n).toArray] w (Pure (B (ruleB n.nd)) w) := by
 refine enter Tryz.func41 rfl Tryz.ntmps41 rfl ?_
 have hH := Hp.start w
 refine SR ?_
 refine RL.new rfl hH (f := fun b => (.pointer (some ⟨b, 0, none⟩))) (run_box (v := .agg _) rfl) ?_
 intro b3 w1 hH2
 refine V (aV (B false) rfl) ?_
 refine RL.nil ?_
 refine SR ?_
 refine V (fA underlying28 0 rfl sizeOf3 rfl) ?_
 refine V (run_ld underlying3 rfl rfl (hH2.cell (i := 0) rfl (v := I _) rfl)) ?_
 refine V (run_eql rfl rfl) ?_
 refine V (mV (B _) rfl) ?_
 refine RL.splitP (dj := 6) rfl (fun h5 => ?_) (fun h5 => ?_)
 ·refine RL.gT rfl (bT h5) ?_
  refine V (fA underlying28 2 rfl sizeOf9 rfl) ?_
  refine RL.gT rfl (bT h5) ?_
  refine V (run_ld underlying9 rfl rfl (hH2.cell (i := 0) rfl (v := .string _) rfl)) ?_
  refine RL.gT rfl (bT h5) ?_
  refine RL.callP rfl hH2 (c_name_Right _  _) (run_call1 call86 rfl) ?_
  intro w6 hH7
  refine V (run_pickT (bT h5) (v := B _) rfl) ?_
  refine V (mV (B _) rfl) ?_
  refine RL.split (dj := 11) rfl (fun h9 => ?_) (fun h9 => ?_)
  ·refine RL.gT rfl (bR (c := true) h9) ?_
   refine V (fA underlying28 3 rfl sizeOf25 rfl) ?_
   refine RL.gT rfl (bR (c := true) h9) ?_
   refine V (run_ldV (hn.names_.sl.hp hH7) underlying25 rfl rfl (hH7.cell (i := 0) rfl rfl)) ?_
   refine RL.gT rfl (bR (c := true) h9) ?_
   refine RL.callP rfl hH7 (c_term_right _ _  _ (hn.names_.sl.hp hH7)) (run_call1 call38 rfl) ?_
   intro w10 hH11
   refine V (run_pickT (bR (c := true) h9) (v := B _) rfl) ?_
   refine V (mV (B _) rfl) ?_
   refine RL.split (dj := 16) rfl (fun h13 => ?_) (fun h13 => ?_)
   ·refine RL.gT rfl (bR (c := true) h13) ?_
    refine V (fA underlying28 4 rfl sizeOf26 rfl) ?_
    refine RL.gT rfl (bR (c := true) h13) ?_
    refine V (run_ldV (hn.kids_.sl.hp hH11) underlying26 rfl rfl (hH11.cell (i := 0) rfl rfl)) ?_
    refine RL.gT rfl (bR (c := true) h13) ?_
    refine V (run_lenSl (hn.kids_.sl.hp hH11) rfl underlying26 rfl) ?_
    refine RL.gT rfl (bR (c := true) h13) ?_
    refine V (run_eql rfl rfl) ?_
    refine V (run_pickT (bR (c := true) h13) (v := B _) rfl) ?_
    refine V (aV (B _) rfl) ?_
    refine RL.nil ?_
    refine CW.ret ?_
    refine outP1 Tryz.results41 (congrArg B ?_) hH11.below
    (rw [rule_is]; simp [*])
   ·refine RL.gF rfl rfl (bR (c := false) h13) rfl ?_
    refine RL.gF rfl rfl (bR (c := false) h13) rfl ?_
    refine RL.gF rfl rfl (bR (c := false) h13) rfl ?_
    refine RL.gF rfl rfl (bR (c := false) h13) rfl ?_
    refine V (run_pickF (bR (c := false) h13) (v := B false) rfl) ?_
    refine V (aV (B _) rfl) ?_
    refine RL.nil ?_
    refine CW.ret ?_
    refine outP1 Tryz.results41 (congrArg B ?_) hH11.below
    (rw [rule_is]; simp [*])
  ·refine RL.gF rfl rfl (bR (c := false) h9) rfl ?_
   refine RL.gF rfl rfl (bR (c := false) h9) rfl ?_
   refine RL.gF rfl rfl (bR (c := false) h9) rfl ?_
   refine V (run_pickF (bR (c := false) h9) (v := B false) rfl) ?_
   refine V (mV (B _) rfl) ?_
   refine RL.gF rfl rfl rfl rfl ?_
   refine RL.gF rfl rfl rfl rfl ?_
   refine RL.gF rfl rfl rfl rfl ?_
   refine RL.gF rfl rfl rfl rfl ?_
   refine V (run_pickF rfl (v := B false) rfl) ?_
   refine V (aV (B _) rfl) ?_
   refine RL.nil ?_
   refine CW.ret ?_
   refine outP1 Tryz.results41 (congrArg B ?_) hH7.below
   (rw [rule_is]; simp [*])
 ·refine RL.gF rfl rfl (bF h5) rfl ?_
  refine RL.gF rfl rfl (bF h5) rfl ?_
  refine RL.gF rfl rfl (bF h5) rfl ?_
  refine V (run_pickF (bF h5) (v := B false) rfl) ?_
  refine V (mV (B _) rfl) ?_
  refine RL.gF rfl rfl rfl rfl ?_
  refine RL.gF rfl rfl rfl rfl ?_
  refine RL.gF rfl rfl rfl rfl ?_
  refine V (run_pickF rfl (v := B false) rfl) ?_
  refine V (mV (B _) rfl) ?_
  refine RL.gF rfl rfl rfl rfl ?_
  refine RL.gF rfl rfl rfl rfl ?_
  refine RL.gF rfl rfl rfl rfl ?_
  refine RL.gF rfl rfl rfl rfl ?_
  refine V (run_pickF rfl (v := B false) rfl) ?_
  refine V (aV (B _) rfl) ?_
  refine RL.nil ?_
  refine CW.ret ?_
  refine outP1 Tryz.results41 (congrArg B ?_) hH2.below
  (rw [rule_is]; simp [*])

theorem c_term_all (v : Value) (l : List NodeR) (f : FuncId) (cs : List Value) (Pd : NodeR → Bool) (w : World) (hs : Sl w v 5 l.length (l.flatMap nodeL)) (hv : NodesV (Kw w) l) (hf : ∀ args w, (callFunc f args).run Tryz.prog w = .ok (.enter f args) w) (go : ∀ x ∈ l, ∀ w', Below w.heap.size w w' → Calls Tryz.prog f (.agg (nodeL x).toArray :: cs).toArray w' (Pure (B (Pd x)) w')) : Calls Tryz.prog 40 #[v, .func (.func f) #[] cs.toArray] w (Pure (B (l.all Pd)) w) := by
 have hm := hs.small
 unfold maxLen at hm
 refine enter Tryz.func40 rfl Tryz.ntmps40 rfl ?_
 have hH := Hp.start w
 refine SR ?_
 refine V (aV (B false) rfl) ?_
 refine RL.nil ?_
 refine CW.seq ?_
 refine SR ?_
 refine V (run_move (by conv => lhs; whnf)) ?_
 refine V (run_lenSl (hs.hp hH) rfl underlying26 rfl) ?_
 refine V (mV (I 0) rfl) ?_
 refine RL.nil ?_
 refine CW.block ?_
 refine CW.loop (G := (Int)) (fun (k : Int) s' w' => (Fr [4, 6, 9, 10, 11, 12, 13, 14, 15, 16, 17] _ s') ∧ (Hp w w' _) ∧ (s' 9 = I k) ∧ (0 ≤ k) ∧ (k ≤ l.length) ∧ (∀ j : Int, 0 ≤ j → j < k → Pd (l.getD j.toNat node0) = true)) (fun (k : Int) => (l.length - k).toNat) (0) ⟨Fr.refl _ _, hH, rfl, (by omega), (by omega), fun j a b => absurd b (by omega)⟩ ?_
 rintro k sg1 w1 ⟨fr1, hH1, e9_1, h0, hk, hg⟩
 have e1_1 : sg1 1 = .func _ _ _ := (fr1 1 rfl).trans rfl
 have e7_1 := (fr1 7 rfl).trans (by conv => lhs; whnf)
 have e8_1 : sg1 8 = I _ := (fr1 8 rfl).trans rfl
 refine SR ?_
 refine V (run_lss e9_1 e8_1) ?_
 refine RL.nil ?_
 refine CW.seq ?_
 refine CW.condP rfl (fun h3 => ?_) (fun h3 => ?_)
 ·refine CW.skip ?_
  refine CW.seq ?_
  refine CW.block ?_
  refine SR ?_
  refine V (run_indexAddrS (hs.hp hH1) underlying26 sizeOf28 e7_1 e9_1 (by omega)) ?_
  refine V (run_ldE (dv := node0) nodeL_len (hs.hp hH1) underlying28 rfl rfl rfl (by omega)) ?_
  refine RL.new rfl hH1 (f := fun b => (.pointer (some ⟨b, 0, none⟩))) (run_alloc Tryz.zeroValue28) ?_
  intro b6 w4 hH5
  refine RL.set hH5 (i := 0) rfl (run_stW (c' := (nodeL _).toArray) rfl rfl rfl (nodeL_one (hv.at (by omega) (by omega))) (hH5.blk (i := 0) rfl) rfl) ?_
  intro w7 hH8
  simp only [z0, z1] at hH8
  refine RL.nil ?_
  refine SR ?_
  refine V (run_move e1_1) ?_
  refine V (run_ldA (cs := nodeL _) underlying28 rfl rfl rfl (rangeAt_cells (hH8.blk (i := 0) rfl))) ?_
  refine RL.callP rfl hH8 (go _ (List.mem_of_getElem? (getD_at (d := node0) h0 ‹k < _›)) _ hH8.below) (run_callC1 hf (cs := cs) rfl rfl) ?_
  intro w9 hH10
  refine V (run_not rfl) ?_
  refine RL.nil ?_
  refine CW.cond rfl (fun h13 => ?_) (fun h13 => ?_)
  ·refine SR ?_
   refine V (aV (B false) rfl) ?_
   refine RL.nil ?_
   refine CW.ret ?_
   refine outP1 Tryz.results40 (congrArg B ?_) hH10.below
   first | exact (all_no h0 ‹k < _› (nt ‹(!Pd _) = true›)).symm | exact (all_yes ‹¬ k < _› hg).symm
  ·refine CW.skip ?_
   refine CW.region ?_
   refine V (run_add e9_1 rfl (by omega)) ?_
   refine V (mV (I _) rfl) ?_
   refine RL.nil ?_
   refine ⟨k + 1, ?_, fr1.u4.u4.u1.u1, (hH10.sub (sQ sR)), (congrArg I (by first | rfl | omega)), ?_, ?_, ?_⟩
   ·((try dsimp only); omega)
   ·omega
   ·omega
   ·exact fun j a b => if e : j = k then e ▸ nf ‹(!Pd _) = false› else hg j a (by omega)
 ·refine CW.exit (id := 0) rfl ?_
  refine SR ?_
  refine V (aV (B true) rfl) ?_
  refine RL.nil ?_
  refine CW.ret ?_
  refine outP1 Tryz.results40 (congrArg B ?_) hH1.below
  first | exact (all_no h0 ‹k < _› (nt ‹(!Pd _) = true›)).symm | exact (all_yes ‹¬ k < _› hg).symm

theorem s_isconst (n : NodeR) (w : World) (hn : NodeV (Kw w) n) (ih : ∀ x ∈ n.kids, ∀ w, NodeV (Kw w) x → Calls Tryz.prog 22 #[.agg (nodeL x).toArray] w (Pure (B (constB x.nd)) w)) : Calls Tryz.prog 22 #[.agg (nodeL n).toArray] w (Pure (B (constB n.nd)) w) := by
 have hm1 := hn.kids_.small
 have hm2 := hn.names_.small
 unfold maxLen at hm1 hm2
 refine enter Tryz.func22 rfl Tryz.ntmps22 rfl ?_
 have hH := Hp.start w
 refine SR ?_
 refine RL.new rfl hH (f := fun b => (.pointer (some ⟨b, 0, none⟩))) (run_box (v := .agg _) rfl) ?_
 intro b3 w1 hH2
 refine V (aV (B false) rfl) ?_
 refine RL.nil ?_
 refine CW.seq ?_
 refine SR ?_
 refine V (fA underlying28 0 rfl sizeOf3 rfl) ?_
 refine V (run_ld underlying3 rfl rfl (hH2.cell (i := 0) rfl (v := I _) rfl)) ?_
 refine RL.nil ?_
 refine CW.block ?_
 refine SR ?_
 refine V (run_eql rfl rfl) ?_
 refine V (aV (B _) rfl) ?_
 refine RL.nil ?_
 refine CW.condP rfl (fun h5 => ?_) (fun h5 => ?_)
 ·refine SR ?_
  refine V (run_ldA (cs := nodeL _) underlying28 rfl rfl rfl (rangeAt_cells (hH2.blk (i := 0) rfl))) ?_
  refine RL.callP rfl hH2 (c_term_leaf _  _ (hn.mono hH2.kw)) (run_call1 call37 rfl) ?_
  intro w6 hH7
  refine V (aV (B _) rfl) ?_
  refine RL.nil ?_
  refine CW.ret ?_
  refine outP1 Tryz.results22 (congrArg B ?_) hH7.below
  first | (rw [const_2 ‹n.kind = 2›]; done) | (rw [const_3 ‹n.kind = 3›]; simp [*]; done) | exact const_4y ‹_› ‹_› ‹_› | exact const_4n ‹_› ‹_› | exact const_4k ‹_› ‹_› | exact const_5y ‹_› ‹_› | exact const_5n ‹_› ‹_› | exact (const_x ‹_› ‹_› ‹_› ‹_›).symm
 ·refine SR ?_
  refine V (run_eql rfl rfl) ?_
  refine V (aV (B _) rfl) ?_
  refine RL.nil ?_
  refine CW.condP rfl (fun h10 => ?_) (fun h10 => ?_)
  ·refine SR ?_
   refine V (fA underlying28 2 rfl sizeOf9 rfl) ?_
   refine V (run_ld underlying9 rfl rfl (hH2.cell (i := 0) rfl (v := .string _) rfl)) ?_
   refine V (run_eqlS rfl rfl) ?_
   refine V (mV (B _) rfl) ?_
   refine RL.splitP (dj := 14) rfl (fun h12 => ?_) (fun h12 => ?_)
   ·refine RL.gT rfl (bT h12) ?_
    refine V (fA underlying28 3 rfl sizeOf25 rfl) ?_
    refine RL.gT rfl (bT h12) ?_
    refine V (run_ldV (hn.names_.sl.hp hH2) underlying25 rfl rfl (hH2.cell (i := 0) rfl rfl)) ?_
    refine RL.gT rfl (bT h12) ?_
    refine RL.callP rfl hH2 (c_term_right _ _  _ (hn.names_.sl.hp hH2)) (run_call1 call38 rfl) ?_
    intro w13 hH14
    refine V (run_pickT (bT h12) (v := B _) rfl) ?_
    refine V (mV (B _) rfl) ?_
    refine RL.split (dj := 19) rfl (fun h16 => ?_) (fun h16 => ?_)
    ·refine RL.gT rfl (bR (c := true) h16) ?_
     refine V (fA underlying28 4 rfl sizeOf26 rfl) ?_
     refine RL.gT rfl (bR (c := true) h16) ?_
     refine V (run_ldV (hn.kids_.sl.hp hH14) underlying26 rfl rfl (hH14.cell (i := 0) rfl rfl)) ?_
     refine RL.gT rfl (bR (c := true) h16) ?_
     refine V (run_lenSl (hn.kids_.sl.hp hH14) rfl underlying26 rfl) ?_
     refine RL.gT rfl (bR (c := true) h16) ?_
     refine V (run_eql rfl rfl) ?_
     refine V (run_pickT (bR (c := true) h16) (v := B _) rfl) ?_
     refine V (aV (B _) rfl) ?_
     refine RL.nil ?_
     refine CW.ret ?_
     refine outP1 Tryz.results22 (congrArg B ?_) hH14.below
     first | (rw [const_2 ‹n.kind = 2›]; done) | (rw [const_3 ‹n.kind = 3›]; simp [*]; done) | exact const_4y ‹_› ‹_› ‹_› | exact const_4n ‹_› ‹_› | exact const_4k ‹_› ‹_› | exact const_5y ‹_› ‹_› | exact const_5n ‹_› ‹_› | exact (const_x ‹_› ‹_› ‹_› ‹_›).symm
    ·refine RL.gF rfl rfl (bR (c := false) h16) rfl ?_
     refine RL.gF rfl rfl (bR (c := false) h16) rfl ?_
     refine RL.gF rfl rfl (bR (c := false) h16) rfl ?_
     refine RL.gF rfl rfl (bR (c := false) h16) rfl ?_
     refine V (run_pickF (bR (c := false) h16) (v := B false) rfl) ?_
     refine V (aV (B _) rfl) ?_
     refine RL.nil ?_
     refine CW.ret ?_
     refine outP1 Tryz.results22 (congrArg B ?_) hH14.below
     first | (rw [const_2 ‹n.kind = 2›]; done) | (rw [const_3 ‹n.kind = 3›]; simp [*]; done) | exact const_4y ‹_› ‹_› ‹_› | exact const_4n ‹_› ‹_› | exact const_4k ‹_› ‹_› | exact const_5y ‹_› ‹_› | exact const_5n ‹_› ‹_› | exact (const_x ‹_› ‹_› ‹_› ‹_›).symm
   ·refine RL.gF rfl rfl (bF h12) rfl ?_
    refine RL.gF rfl rfl (bF h12) rfl ?_
    refine RL.gF rfl rfl (bF h12) rfl ?_
    refine V (run_pickF (bF h12) (v := B false) rfl) ?_
    refine V (mV (B _) rfl) ?_
    refine RL.gF rfl rfl rfl rfl ?_
    refine RL.gF rfl rfl rfl rfl ?_
    refine RL.gF rfl rfl rfl rfl ?_
    refine RL.gF rfl rfl rfl rfl ?_
    refine V (run_pickF rfl (v := B false) rfl) ?_
    refine V (aV (B _) rfl) ?_
    refine RL.nil ?_
    refine CW.ret ?_
    refine outP1 Tryz.results22 (congrArg B ?_) hH2.below
    first | (rw [const_2 ‹n.kind = 2›]; done) | (rw [const_3 ‹n.kind = 3›]; simp [*]; done) | exact const_4y ‹_› ‹_› ‹_› | exact const_4n ‹_› ‹_› | exact const_4k ‹_› ‹_› | exact const_5y ‹_› ‹_› | exact const_5n ‹_› ‹_› | exact (const_x ‹_› ‹_› ‹_› ‹_›).symm
  ·refine SR ?_
   refine V (run_eql rfl rfl) ?_
   refine V (aV (B _) rfl) ?_
   refine RL.nil ?_
   refine CW.condP rfl (fun h19 => ?_) (fun h19 => ?_)
   ·refine SR ?_
    refine V (run_ldA (cs := nodeL _) underlying28 rfl rfl rfl (rangeAt_cells (hH2.blk (i := 0) rfl))) ?_
    refine RL.callP rfl hH2 (c_term_bare _  _ (hn.mono hH2.kw)) (run_call1 call39 rfl) ?_
    intro w20 hH21
    refine V (mV (B _) rfl) ?_
    refine RL.splitP (dj := 29) rfl (fun h24 => ?_) (fun h24 => ?_)
    ·refine RL.gT rfl (bT h24) ?_
     refine V (fA underlying28 4 rfl sizeOf26 rfl) ?_
     refine RL.gT rfl (bT h24) ?_
     refine V (run_ldV (hn.kids_.sl.hp hH21) underlying26 rfl rfl (hH21.cell (i := 0) rfl rfl)) ?_
     refine RL.gT rfl (bT h24) ?_
     refine V (run_lenSl (hn.kids_.sl.hp hH21) rfl underlying26 rfl) ?_
     refine RL.gT rfl (bT h24) ?_
     refine V (run_gtr rfl rfl) ?_
     refine V (run_pickT (bT h24) (v := B _) rfl) ?_
     refine V (mV (B _) rfl) ?_
     refine RL.splitP (dj := 35) rfl (fun h26 => ?_) (fun h26 => ?_)
     ·refine RL.gT rfl (bT h26) ?_
      refine V (fA underlying28 4 rfl sizeOf26 rfl) ?_
      refine RL.gT rfl (bT h26) ?_
      refine V (run_ldV (hn.kids_.sl.hp hH21) underlying26 rfl rfl (hH21.cell (i := 0) rfl rfl)) ?_
      refine RL.gT rfl (bT h26) ?_
      refine RL.callP rfl hH21 (c_term_all _ n.kids 22 [] (fun x => constB x.nd) _ (hn.kids_.sl.hp hH21) ⟨(NodeV.mono hH21.kw hn).each⟩ call22 fun x hx w' hb => ih x hx w' (NodeV.mono (hH21.kw.trans (Kw.below hb)) (hn.each x hx))) (run_call2 call40 rfl rfl) ?_
      intro w27 hH28
      refine V (run_pickT (bT h26) (v := B _) rfl) ?_
      refine V (aV (B _) rfl) ?_
      refine RL.nil ?_
      refine CW.ret ?_
      refine outP1 Tryz.results22 (congrArg B ?_) hH28.below
      first | (rw [const_2 ‹n.kind = 2›]; done) | (rw [const_3 ‹n.kind = 3›]; simp [*]; done) | exact const_4y ‹_› ‹_› ‹_› | exact const_4n ‹_› ‹_› | exact const_4k ‹_› ‹_› | exact const_5y ‹_› ‹_› | exact const_5n ‹_› ‹_› | exact (const_x ‹_› ‹_› ‹_› ‹_›).symm
     ·refine RL.gF rfl rfl (bF h26) rfl ?_
      refine RL.gF rfl rfl (bF h26) rfl ?_
      refine RL.gF rfl rfl (bF h26) rfl ?_
      refine V (run_pickF (bF h26) (v := B false) rfl) ?_
      refine V (aV (B _) rfl) ?_
      refine RL.nil ?_
      refine CW.ret ?_
      refine outP1 Tryz.results22 (congrArg B ?_) hH21.below
      first | (rw [const_2 ‹n.kind = 2›]; done) | (rw [const_3 ‹n.kind = 3›]; simp [*]; done) | exact const_4y ‹_› ‹_› ‹_› | exact const_4n ‹_› ‹_› | exact const_4k ‹_› ‹_› | exact const_5y ‹_› ‹_› | exact const_5n ‹_› ‹_› | exact (const_x ‹_› ‹_› ‹_› ‹_›).symm
    ·refine RL.gF rfl rfl (bF h24) rfl ?_
     refine RL.gF rfl rfl (bF h24) rfl ?_
     refine RL.gF rfl rfl (bF h24) rfl ?_
     refine RL.gF rfl rfl (bF h24) rfl ?_
     refine V (run_pickF (bF h24) (v := B false) rfl) ?_
     refine V (mV (B _) rfl) ?_
     refine RL.gF rfl rfl rfl rfl ?_
     refine RL.gF rfl rfl rfl rfl ?_
     refine RL.gF rfl rfl rfl rfl ?_
     refine V (run_pickF rfl (v := B false) rfl) ?_
     refine V (aV (B _) rfl) ?_
     refine RL.nil ?_
     refine CW.ret ?_
     refine outP1 Tryz.results22 (congrArg B ?_) hH21.below
     first | (rw [const_2 ‹n.kind = 2›]; done) | (rw [const_3 ‹n.kind = 3›]; simp [*]; done) | exact const_4y ‹_› ‹_› ‹_› | exact const_4n ‹_› ‹_› | exact const_4k ‹_› ‹_› | exact const_5y ‹_› ‹_› | exact const_5n ‹_› ‹_› | exact (const_x ‹_› ‹_› ‹_› ‹_›).symm
   ·refine SR ?_
    refine V (run_eql rfl rfl) ?_
    refine V (aV (B _) rfl) ?_
    refine RL.nil ?_
    refine CW.condP rfl (fun h31 => ?_) (fun h31 => ?_)
    ·refine SR ?_
     refine V (run_ldA (cs := nodeL _) underlying28 rfl rfl rfl (rangeAt_cells (hH2.blk (i := 0) rfl))) ?_
     refine RL.callP rfl hH2 (c_term_bare _  _ (hn.mono hH2.kw)) (run_call1 call39 rfl) ?_
     intro w32 hH33
     refine V (mV (B _) rfl) ?_
     refine RL.splitP (dj := 44) rfl (fun h36 => ?_) (fun h36 => ?_)
     ·refine RL.gT rfl (bT h36) ?_
      refine V (fA underlying28 4 rfl sizeOf26 rfl) ?_
      refine RL.gT rfl (bT h36) ?_
      refine V (run_ldV (hn.kids_.sl.hp hH33) underlying26 rfl rfl (hH33.cell (i := 0) rfl rfl)) ?_
      refine RL.gT rfl (bT h36) ?_
      refine RL.callP rfl hH33 (c_term_all _ n.kids 41 [] (fun x => ruleB x.nd) _ (hn.kids_.sl.hp hH33) ⟨(NodeV.mono hH33.kw hn).each⟩ call41 fun x hx w' hb => c_term_isRule x w' (NodeV.mono (hH33.kw.trans (Kw.below hb)) (hn.each x hx))) (run_call2 call40 rfl rfl) ?_
      intro w37 hH38
      refine V (run_pickT (bT h36) (v := B _) rfl) ?_
      refine V (aV (B _) rfl) ?_
      refine RL.nil ?_
      refine CW.ret ?_
      refine outP1 Tryz.results22 (congrArg B ?_) hH38.below
      first | (rw [const_2 ‹n.kind = 2›]; done) | (rw [const_3 ‹n.kind = 3›]; simp [*]; done) | exact const_4y ‹_› ‹_› ‹_› | exact const_4n ‹_› ‹_› | exact const_4k ‹_› ‹_› | exact const_5y ‹_› ‹_› | exact const_5n ‹_› ‹_› | exact (const_x ‹_› ‹_› ‹_› ‹_›).symm
     ·refine RL.gF rfl rfl (bF h36) rfl ?_
      refine RL.gF rfl rfl (bF h36) rfl ?_
      refine RL.gF rfl rfl (bF h36) rfl ?_
      refine V (run_pickF (bF h36) (v := B false) rfl) ?_
      refine V (aV (B _) rfl) ?_
      refine RL.nil ?_
      refine CW.ret ?_
      refine outP1 Tryz.results22 (congrArg B ?_) hH33.below
      first | (rw [const_2 ‹n.kind = 2›]; done) | (rw [const_3 ‹n.kind = 3›]; simp [*]; done) | exact const_4y ‹_› ‹_› ‹_› | exact const_4n ‹_› ‹_› | exact const_4k ‹_› ‹_› | exact const_5y ‹_› ‹_› | exact const_5n ‹_› ‹_› | exact (const_x ‹_› ‹_› ‹_› ‹_›).symm
    ·refine CW.skip ?_
     refine SR ?_
     refine V (aV (B false) rfl) ?_
     refine RL.nil ?_
     refine CW.ret ?_
     refine outP1 Tryz.results22 (congrArg B ?_) hH2.below
     first | (rw [const_2 ‹n.kind = 2›]; done) | (rw [const_3 ‹n.kind = 3›]; simp [*]; done) | exact const_4y ‹_› ‹_› ‹_› | exact const_4n ‹_› ‹_› | exact const_4k ‹_› ‹_› | exact const_5y ‹_› ‹_› | exact const_5n ‹_› ‹_› | exact (const_x ‹_› ‹_› ‹_› ‹_›).symm
theorem c_term_IsConst (n : NodeR) : ∀ w, NodeV (Kw w) n → Calls Tryz.prog 22 #[.agg (nodeL n).toArray] w (Pure (B (constB n.nd)) w) := node_ind (C := fun n => ∀ w, NodeV (Kw w) n → Calls Tryz.prog 22 #[.agg (nodeL n).toArray] w (Pure (B (constB n.nd)) w)) (fun n ih w hn => s_isconst n w hn ih) n

theorem c_spell_reader_fail (W0 : World) (b : Nat) (s : RS) (L : List Ent) (a : Int) (w : World) (hH : Hp W0 w (.blk b (.cells #[B s.1, I s.2] 58 (0, 0)) :: L)) : Calls Tryz.prog 43 #[.pointer (some ⟨b, 0, none⟩), I a] w (Ret fun u w' => ∃ (y : BitVec 64) (s' : RS), u = U y ∧ (y = 0#64 ∧ s' = failF s a) ∧ Hp W0 w' (.blk b (.cells #[B s'.1, I s'.2] 58 (0, 0)) :: L)) := by
 refine enter Tryz.func43 rfl Tryz.ntmps43 rfl ?_
 refine SR ?_
 refine V (aV (U 0#64) rfl) ?_
 refine RL.nil ?_
 refine CW.seq ?_
 refine SR ?_
 refine V (mV (Pn _ _) rfl) ?_
 refine V (run_nilCheck rfl) ?_
 refine V (fA underlying58 0 rfl sizeOf4 rfl) ?_
 refine V (run_ld underlying4 rfl rfl (hH.cell (i := 0) rfl (v := B _) rfl)) ?_
 refine V (run_not rfl) ?_
 refine RL.nil ?_
 refine CW.cond rfl (fun h3 => ?_) (fun h3 => ?_)
 ·refine CW.region ?_
  refine V (mV (Pn _ _) rfl) ?_
  refine V (mV (Pn _ _) rfl) ?_
  refine V (mV (I _) rfl) ?_
  refine V (run_nilCheck rfl) ?_
  refine V (fA underlying58 0 rfl sizeOf4 rfl) ?_
  refine RL.set hH (i := 0) rfl (run_st rfl rfl (v := B true) rfl rfl rfl (hH.blk (i := 0) rfl) (by first | decide | simp)) ?_
  intro w4 hH5
  simp only [z0, z1] at hH5
  refine V (run_nilCheck rfl) ?_
  refine V (fA underlying58 1 rfl sizeOf3 rfl) ?_
  refine RL.set hH5 (i := 0) rfl (run_st rfl rfl (v := I _) rfl rfl rfl (hH5.blk (i := 0) rfl) (by first | decide | simp)) ?_
  intro w6 hH7
  simp only [z0, z1] at hH7
  refine RL.nil ?_
  refine SR ?_
  refine V (aV (U 0#64) rfl) ?_
  refine RL.nil ?_
  refine CW.ret ?_
  exact out1 Tryz.results43 rfl ⟨_, failF s a, rfl, by exact ⟨rfl, rfl⟩, Hp.conv (hH7.sub sR) (by first | (rw [fail_f (nt ‹_›)]; rfl) | (rw [fail_t (nf ‹_›)]))⟩
 ·refine CW.skip ?_
  refine SR ?_
  refine V (aV (U 0#64) rfl) ?_
  refine RL.nil ?_
  refine CW.ret ?_
  exact out1 Tryz.results43 rfl ⟨_, failF s a, rfl, by exact ⟨rfl, rfl⟩, Hp.conv (hH.sub sR) (by first | (rw [fail_f (nt ‹_›)]; rfl) | (rw [fail_t (nf ‹_›)]))⟩

theorem c_spell_reader_places (W0 : World) (b : Nat) (s : RS) (L : List Ent) (v : Value) (l : List Tx) (v2 : Value) (ws : List Wd) (w : World) (hs : Sl W0 v 1 l.length (txL l)) (hw : Sl W0 v2 2 ws.length (ws.flatMap wdL)) (hH : Hp W0 w (.blk b (.cells #[B s.1, I s.2] 58 (0, 0)) :: L)) : Calls Tryz.prog 44 #[.pointer (some ⟨b, 0, none⟩), v, v2] w (Ret fun u w' => ∃ (y : BitVec 64) (s' : RS), u = U y ∧ (okR (placesG l ws) s y s') ∧ Hp W0 w' (.blk b (.cells #[B s'.1, I s'.2] 58 (0, 0)) :: L)) := by
 have hm1 := hw.small
 unfold maxLen at hm1
 refine enter Tryz.func44 rfl Tryz.ntmps44 rfl ?_
 refine SR ?_
 refine V (aV (U 0#64) rfl) ?_
 refine RL.nil ?_
 refine SR ?_
 refine V (aV (U 0#64) rfl) ?_
 refine RL.nil ?_
 refine CW.seq ?_
 refine SR ?_
 refine V (run_move (by conv => lhs; whnf)) ?_
 refine V (run_lenSl (hw.hp hH) rfl underlying25 rfl) ?_
 refine V (mV (I 0) rfl) ?_
 refine RL.nil ?_
 refine CW.block ?_
 refine CW.loop (G := (Int) × (BitVec 64)) (fun (⟨k, m⟩ : (Int) × (BitVec 64)) s' w' => (Fr [6, 7, 9, 10, 13, 14, 15, 16, 17, 18, 19, 20, 21, 22, 23, 24, 25, 26, 27, 28, 29, 30] _ s') ∧ (Hp W0 w' _) ∧ (s' 7 = U m) ∧ (s' 13 = I k) ∧ (0 ≤ k) ∧ (k ≤ ws.length) ∧ (gotP l ws 0#64 = gotP l (ws.drop k.toNat) m)) (fun (⟨k, m⟩ : (Int) × (BitVec 64)) => (ws.length - k).toNat) ((0, 0#64)) ⟨Fr.refl _ _, hH, rfl, rfl, (by omega), (by omega), rfl⟩ ?_
 rintro ⟨k, m⟩ sg1 w1 ⟨fr1, hH1, e7_1, e13_1, h0, hk, hm⟩
 have e0_1 : sg1 0 = Pn _ _ := (fr1 0 rfl).trans rfl
 have e1_1 := (fr1 1 rfl).trans (by conv => lhs; whnf)
 have e11_1 := (fr1 11 rfl).trans (by conv => lhs; whnf)
 have e12_1 : sg1 12 = I _ := (fr1 12 rfl).trans rfl
 refine SR ?_
 refine V (run_lss e13_1 e12_1) ?_
 refine RL.nil ?_
 refine CW.seq ?_
 refine CW.condP rfl (fun h3 => ?_) (fun h3 => ?_)
 ·refine CW.skip ?_
  refine CW.seq ?_
  refine CW.block ?_
  refine SR ?_
  refine V (run_indexAddrS (hw.hp hH1) underlying25 sizeOf53 e11_1 e13_1 (by omega)) ?_
  refine V (run_ldE (dv := wd0) wdL_len (hw.hp hH1) underlying53 rfl rfl rfl (by omega)) ?_
  refine RL.new rfl hH1 (f := fun b => (.pointer (some ⟨b, 0, none⟩))) (run_alloc Tryz.zeroValue53) ?_
  intro b6 w4 hH5
  refine RL.set hH5 (i := 0) rfl (run_stW (c' := (wdL _).toArray) rfl rfl rfl (by simp [wdL, Value.oneCell']) (hH5.blk (i := 0) rfl) rfl) ?_
  intro w7 hH8
  simp only [z0, z1] at hH8
  refine RL.nil ?_
  refine SR ?_
  refine V (run_move e1_1) ?_
  refine V (fA underlying53 0 rfl sizeOf9 rfl) ?_
  refine V (run_ld underlying9 rfl rfl (hH8.cell (i := 0) rfl (v := .string _) rfl)) ?_
  refine RL.callP rfl hH8 (c_name_Find _ _ _  _ (hs.hp hH8)) (run_call2 call87 rfl rfl) ?_
  intro w9 hH10
  refine V (aV (I _) rfl) ?_
  refine RL.nil ?_
  refine CW.seq ?_
  refine SR ?_
  refine V (mV (I _) rfl) ?_
  refine V (run_lss rfl rfl) ?_
  refine RL.nil ?_
  refine CW.condP rfl (fun h12 => ?_) (fun h12 => ?_)
  ·refine SR ?_
   refine V (run_move e0_1) ?_
   refine V (fA underlying53 1 rfl sizeOf3 rfl) ?_
   refine V (run_ld underlying3 rfl rfl (hH10.cell (i := 0) rfl (v := I _) rfl)) ?_
   refine RL.callT rfl (c_spell_reader_fail _ _ _ _ _ _ (hH10.perm (((pC pR).trans pS).trans (pC pR)))) (run_call2 call43 rfl rfl) ?_
   rintro _ w18 ⟨_, _, rfl, ⟨rfl, rfl⟩, h19⟩
   have hH20 := h19.perm (((pC pR).trans pS).trans (pC pR))
   refine V (aV (U _) rfl) ?_
   refine RL.nil ?_
   refine CW.ret ?_
   exact out1 Tryz.results44 rfl ⟨_, (failF s (ws.getD k.toNat wd0).place), rfl, by first | exact ok_err (got_no h0 ‹k < _› hm ‹_›) | exact ok_ok (got_end ‹_› hm), Hp.conv ((hH20.perm (((pC pR).trans pS).trans (pC pR))).sub (sP (sQ sR))) (by rfl)⟩
  ·refine CW.skip ?_
   refine CW.region ?_
   refine V (run_move e7_1) ?_
   refine V (mV (I _) rfl) ?_
   refine RL.callP rfl hH10 (c_mask_With _ _  _) (run_call2 call88 rfl rfl) ?_
   intro w21 hH22
   refine V (aV (U _) rfl) ?_
   refine RL.nil ?_
   refine CW.region ?_
   refine V (run_add e13_1 rfl (by omega)) ?_
   refine V (mV (I _) rfl) ?_
   refine RL.nil ?_
   refine ⟨(k + 1, _), ?_, fr1.u4.u4.u4.u4.u1, (hH22.sub (sQ sR)), rfl, (congrArg I (by first | rfl | omega)), ?_, ?_, ?_⟩
   ·((try dsimp only); omega)
   ·omega
   ·omega
   ·exact got_next h0 ‹k < _› hm ‹_›
 ·refine CW.exit (id := 0) rfl ?_
  refine SR ?_
  refine V (run_move e7_1) ?_
  refine V (aV (U _) rfl) ?_
  refine RL.nil ?_
  refine CW.ret ?_
  exact out1 Tryz.results44 rfl ⟨_, s, rfl, by first | exact ok_err (got_no h0 ‹k < _› hm ‹_›) | exact ok_ok (got_end ‹_› hm), Hp.conv (hH1.sub sR) (by rfl)⟩

theorem c_spell_reader_point (W0 : World) (b : Nat) (s : RS) (L : List Ent) (f : Fac) (n : NodeR) (w : World) (hT : Tab W0) (hf : FacV (Kw W0) f) (hn : NodeV (Kw W0) n) (hH : Hp W0 w (.blk b (.cells #[B s.1, I s.2] 58 (0, 0)) :: L)) : Calls Tryz.prog 46 #[.pointer (some ⟨b, 0, none⟩), .agg (facC f), .agg (nodeL n).toArray] w (Ret fun u w' => ∃ (y : BitVec 64) (s' : RS), u = U y ∧ (okR (pointG f.fc n.nd) s y s') ∧ Hp W0 w' (.blk b (.cells #[B s'.1, I s'.2] 58 (0, 0)) :: L)) := by
 refine enter Tryz.func46 rfl Tryz.ntmps46 rfl ?_
 refine SR ?_
 refine RL.new rfl hH (f := fun b => (.pointer (some ⟨b, 0, none⟩))) (run_box (v := .agg _) rfl) ?_
 intro b3 w1 hH2
 refine RL.new rfl hH2 (f := fun b => (.pointer (some ⟨b, 0, none⟩))) (run_box (v := .agg _) rfl) ?_
 intro b6 w4 hH5
 refine V (aV (U 0#64) rfl) ?_
 refine RL.nil ?_
 refine SR ?_
 refine V (fA underlying50 1 rfl sizeOf45 rfl) ?_
 refine V (run_ld underlying45 rfl rfl (hH5.cell (i := 1) rfl rfl)) ?_
 refine V (fA underlying28 2 rfl sizeOf9 rfl) ?_
 refine V (run_ld underlying9 rfl rfl (hH5.cell (i := 0) rfl (v := .string _) rfl)) ?_
 refine RL.callP rfl hH5 (c_name_Find _ _ _  _ (hf.names.sl.hp hH5)) (run_call2 call87 rfl rfl) ?_
 intro w7 hH8
 refine V (aV (I _) rfl) ?_
 refine RL.nil ?_
 refine CW.seq ?_
 refine SR ?_
 refine V (mV (I _) rfl) ?_
 refine V (run_lss rfl rfl) ?_
 refine RL.nil ?_
 refine CW.condP rfl (fun h10 => ?_) (fun h10 => ?_)
 ·refine SR ?_
  refine V (mV (Pn _ _) rfl) ?_
  refine V (fA underlying28 1 rfl sizeOf3 rfl) ?_
  refine V (run_ld underlying3 rfl rfl (hH8.cell (i := 0) rfl (v := I _) rfl)) ?_
  refine RL.callT rfl (c_spell_reader_fail _ _ _ _ _ _ (hH8.perm (((pC ((pC pR).trans pS)).trans pS).trans (pC pR)))) (run_call2 call43 rfl rfl) ?_
  rintro _ w16 ⟨_, _, rfl, ⟨rfl, rfl⟩, h17⟩
  have hH18 := h17.perm (((pC pR).trans pS).trans (pC (((pC pR).trans pS).trans (pC pR))))
  refine V (aV (U _) rfl) ?_
  refine RL.nil ?_
  refine CW.ret ?_
  exact out1 Tryz.results46 rfl ⟨_, (failF s n.place), rfl, by first | exact pt_no ‹_› | exact pt_4 ‹_› ‹_› | exact pt_1 ‹_› ‹_›, Hp.conv ((hH18.perm (((pC ((pC pR).trans pS)).trans pS).trans (pC pR))).sub (sP (sQ (sQ sR)))) (by rfl)⟩
 ·refine CW.skip ?_
  refine CW.seq ?_
  refine SR ?_
  refine V (fA underlying50 0 rfl sizeOf3 rfl) ?_
  refine V (run_ld underlying3 rfl rfl (hH8.cell (i := 1) rfl (v := I _) rfl)) ?_
  refine V (run_eql rfl rfl) ?_
  refine RL.nil ?_
  refine CW.condP rfl (fun h20 => ?_) (fun h20 => ?_)
  ·refine SR ?_
   refine V (fA underlying50 2 rfl sizeOf48 rfl) ?_
   refine V (run_ldBR underlying48 rfl rfl rfl (hH8.blk (i := 1) rfl)) ?_
   refine V (mV (I _) rfl) ?_
   refine RL.callP rfl hH8 (c_hasse_Word _ _  _ (hT.hp hH8)) (run_call2 call90 rfl rfl) ?_
   intro w21 hH22
   refine V (aV (U _) rfl) ?_
   refine RL.nil ?_
   refine CW.ret ?_
   exact out1 Tryz.results46 rfl ⟨_, s, rfl, by first | exact pt_no ‹_› | exact pt_4 ‹_› ‹_› | exact pt_1 ‹_› ‹_›, Hp.conv ((hH22.perm (((pC ((pC pR).trans pS)).trans pS).trans (pC pR))).sub (sP (sQ (sQ sR)))) (by rfl)⟩
  ·refine CW.skip ?_
   refine SR ?_
   refine V (fA underlying50 1 rfl sizeOf45 rfl) ?_
   refine V (run_ld underlying45 rfl rfl (hH8.cell (i := 1) rfl rfl)) ?_
   refine V (run_lenSl (hf.names.sl.hp hH8) rfl underlying45 rfl) ?_
   refine V (mV (I _) rfl) ?_
   refine RL.callP rfl hH8 (c_rung_Word _ _  _) (run_call2 call91 rfl rfl) ?_
   intro w23 hH24
   refine V (run_move (by conv => lhs; whnf)) ?_
   refine V (run_extract rfl (v := U _) rfl) ?_
   refine V (run_extract rfl (v := B _) rfl) ?_
   refine V (aV (U _) rfl) ?_
   refine V (aV (B _) rfl) ?_
   refine RL.nil ?_
   refine SR ?_
   refine V (mV (U _) rfl) ?_
   refine V (aV (U _) rfl) ?_
   refine RL.nil ?_
   refine CW.ret ?_
   exact out1 Tryz.results46 rfl ⟨_, s, rfl, by first | exact pt_no ‹_› | exact pt_4 ‹_› ‹_› | exact pt_1 ‹_› ‹_›, Hp.conv ((hH24.perm (((pC ((pC pR).trans pS)).trans pS).trans (pC pR))).sub (sP (sQ (sQ sR)))) (by rfl)⟩

theorem c_spell_reader_rules (W0 : World) (b : Nat) (s : RS) (L : List Ent) (f : Fac) (n : NodeR) (w : World) (hT : Tab W0) (hf : FacV (Kw W0) f) (hn : NodeV (Kw W0) n) (hH : Hp W0 w (.blk b (.cells #[B s.1, I s.2] 58 (0, 0)) :: L)) : Calls Tryz.prog 45 #[.pointer (some ⟨b, 0, none⟩), .agg (facC f), .agg (nodeL n).toArray] w (Ret fun u w' => ∃ (y : BitVec 64) (s' : RS), u = U y ∧ (okR (rulesG f.fc n.nd.kids 0#64) s y s') ∧ Hp W0 w' (.blk b (.cells #[B s'.1, I s'.2] 58 (0, 0)) :: L)) := by
 have hm1 := hn.kids_.small
 unfold maxLen at hm1
 refine enter Tryz.func45 rfl Tryz.ntmps45 rfl ?_
 refine SR ?_
 refine RL.new rfl hH (f := fun b => (.pointer (some ⟨b, 0, none⟩))) (run_box (v := .agg _) rfl) ?_
 intro b3 w1 hH2
 refine RL.new rfl hH2 (f := fun b => (.pointer (some ⟨b, 0, none⟩))) (run_box (v := .agg _) rfl) ?_
 intro b6 w4 hH5
 refine V (aV (U 0#64) rfl) ?_
 refine RL.nil ?_
 refine SR ?_
 refine V (aV (U 0#64) rfl) ?_
 refine RL.nil ?_
 refine CW.seq ?_
 refine SR ?_
 refine V (fA underlying28 4 rfl sizeOf26 rfl) ?_
 refine V (run_ldV (hn.kids_.sl.hp hH5) underlying26 rfl rfl (hH5.cell (i := 0) rfl rfl)) ?_
 refine V (run_lenSl (hn.kids_.sl.hp hH5) rfl underlying26 rfl) ?_
 refine V (mV (I 0) rfl) ?_
 refine RL.nil ?_
 refine CW.block ?_
 refine CW.loop (G := (Int) × (BitVec 64) × (RS)) (fun (⟨k, m, s1⟩ : (Int) × (BitVec 64) × (RS)) s' w' => (Fr [6, 7, 9, 10, 14, 15, 16, 17, 18, 19, 20, 21, 22, 23, 24, 25, 26, 27, 28, 29, 30, 31, 32, 33, 34, 35, 36, 37, 38, 39, 40, 41] _ s') ∧ (Hp W0 w' (_ :: _ :: .blk b (.cells (#[B s1.1, I s1.2]) 58 (0, 0)) :: _)) ∧ (s' 7 = U m) ∧ (s' 14 = I k) ∧ (0 ≤ k) ∧ (k ≤ n.kids.length) ∧ (RInv f.fc n.nd.kids k m s s1)) (fun (⟨k, m, s1⟩ : (Int) × (BitVec 64) × (RS)) => (n.kids.length - k).toNat) ((0, 0#64, s)) ⟨Fr.refl _ _, hH5, rfl, rfl, (by omega), (by omega), ri_0⟩ ?_
 rintro ⟨k, m, s1⟩ sg7 w7 ⟨fr7, hH7, e7_7, e14_7, h0, hk, hm⟩
 have e0_7 : sg7 0 = Pn _ _ := (fr7 0 rfl).trans rfl
 have e4_7 : sg7 4 = Pn _ _ := (fr7 4 rfl).trans rfl
 have e12_7 := (fr7 12 rfl).trans (by conv => lhs; whnf)
 have e13_7 : sg7 13 = I _ := (fr7 13 rfl).trans rfl
 refine SR ?_
 refine V (run_lss e14_7 e13_7) ?_
 refine RL.nil ?_
 refine CW.seq ?_
 refine CW.condP rfl (fun h9 => ?_) (fun h9 => ?_)
 ·refine CW.skip ?_
  refine CW.seq ?_
  refine CW.block ?_
  refine SR ?_
  refine V (run_indexAddrS (hn.kids_.sl.hp hH7) underlying26 sizeOf28 e12_7 e14_7 (by omega)) ?_
  refine V (run_ldE (dv := node0) nodeL_len (hn.kids_.sl.hp hH7) underlying28 rfl rfl rfl (by omega)) ?_
  refine RL.new rfl hH7 (f := fun b => (.pointer (some ⟨b, 0, none⟩))) (run_alloc Tryz.zeroValue28) ?_
  intro b12 w10 hH11
  refine RL.set hH11 (i := 0) rfl (run_stW (c' := (nodeL _).toArray) rfl rfl rfl (nodeL_one (hn.at (by omega) (by omega))) (hH11.blk (i := 0) rfl) rfl) ?_
  intro w13 hH14
  simp only [z0, z1] at hH14
  refine RL.nil ?_
  refine SR ?_
  refine V (fA underlying50 1 rfl sizeOf45 e4_7) ?_
  refine V (run_ld underlying45 rfl rfl (hH14.cell (i := 2) rfl rfl)) ?_
  refine V (fA underlying28 2 rfl sizeOf9 rfl) ?_
  refine V (run_ld underlying9 rfl rfl (hH14.cell (i := 0) rfl (v := .string _) rfl)) ?_
  refine RL.callP rfl hH14 (c_name_Find _ _ _  _ (hf.names.sl.hp hH14)) (run_call2 call87 rfl rfl) ?_
  intro w15 hH16
  refine V (aV (I _) rfl) ?_
  refine RL.nil ?_
  refine CW.seq ?_
  refine SR ?_
  refine V (mV (I _) rfl) ?_
  refine V (run_lss rfl rfl) ?_
  refine RL.nil ?_
  refine CW.condP rfl (fun h18 => ?_) (fun h18 => ?_)
  ·refine SR ?_
   refine V (run_move e0_7) ?_
   refine V (fA underlying28 1 rfl sizeOf3 rfl) ?_
   refine V (run_ld underlying3 rfl rfl (hH16.cell (i := 0) rfl (v := I _) rfl)) ?_
   refine RL.callT rfl (c_spell_reader_fail _ _ _ _ _ _ (hH16.perm (((pC ((pC ((pC pR).trans pS)).trans pS)).trans pS).trans (pC pR)))) (run_call2 call43 rfl rfl) ?_
   rintro _ w24 ⟨_, _, rfl, ⟨rfl, rfl⟩, h25⟩
   have hH26 := h25.perm (((pC pR).trans pS).trans (pC (((pC pR).trans pS).trans (pC (((pC pR).trans pS).trans (pC pR))))))
   refine V (aV (U _) rfl) ?_
   refine RL.nil ?_
   refine CW.ret ?_
   exact out1 Tryz.results45 rfl ⟨_, (failF s1 (n.kids.getD k.toNat node0).place), rfl, by first | exact ri_no h0 ‹k < _› hm ‹_› | exact ri_end ‹_› hm, Hp.conv ((hH26.perm (((pC ((pC ((pC pR).trans pS)).trans pS)).trans pS).trans (pC pR))).sub (sP (sQ (sQ (sQ sR))))) (by rfl)⟩
  ·refine CW.skip ?_
   refine CW.regionS (by kernel_rfl) hH16 (sP (sP (sP (sQ sR)))) ?_
   intro w27 hH28
   refine AT 0 rfl (hH28.sub (sP (sP (sP (sQ sR))))) (fun w hS => run_move e7_7) ?_
   refine AT 1 rfl (hH28.sub (sP (sP (sP (sQ sR))))) (fun w hS => fA underlying50 2 rfl sizeOf48 e4_7) ?_
   refine AT 2 rfl (hH28.sub (sP (sP (sP (sQ sR))))) (fun w hS => run_ldBR underlying48 rfl rfl rfl (hS.blk (i := 2) rfl)) ?_
   refine AT 3 rfl (hH28.sub (sP (sP (sP (sQ sR))))) (fun w hS => mV (I _) rfl) ?_
   refine AT 4 rfl (hH28.sub (sP (sP (sP (sQ sR))))) (fun w hS => run_move e0_7) ?_
   refine AT 5 rfl (hH28.sub (sP (sP (sP (sQ sR))))) (fun w hS => fA underlying50 1 rfl sizeOf45 e4_7) ?_
   refine AT 6 rfl (hH28.sub (sP (sP (sP (sQ sR))))) (fun w hS => run_ld underlying45 rfl rfl (hS.cell (i := 2) rfl rfl)) ?_
   refine AT 7 rfl (hH28.sub (sP (sP (sP (sQ sR))))) (fun w hS => fA underlying28 3 rfl sizeOf25 rfl) ?_
   refine AT 8 rfl (hH28.sub (sP (sP (sP (sQ sR))))) (fun w hS => run_ldV ((hn.at (by omega) (by omega)).names_.sl.hp hS) underlying25 rfl rfl (hS.cell (i := 0) rfl rfl)) ?_
   refine A1 9 ?_
   refine AO.callT rfl gnone rfl (c_spell_reader_places _ _ _ _ _ _ _ _ _ hf.names.sl (hn.at h0 ‹k < _›).names_.sl (hH28.perm (((pC ((pC ((pC pR).trans pS)).trans pS)).trans pS).trans (pC pR)))) (run_call3 call44 rfl rfl rfl) (fun u w' ⟨_, _, _, _, h⟩ => (h.sub (sQ sR))) ?_
   rintro _ w34 ⟨y31, s32, rfl, e33, h35⟩
   have hH36 := h35.perm (((pC pR).trans pS).trans (pC (((pC pR).trans pS).trans (pC (((pC pR).trans pS).trans (pC pR))))))
   refine A1 10 ?_
   refine AO.callP rfl gnone rfl hH36 (sP (sP (sP (sQ sR)))) (c_grid_Rule _ _ _  _ (hT.hp hH36)) (run_call3 call89 rfl rfl rfl) ?_
   intro w37 hH38
   refine AT 11 rfl (hH38.sub (sP (sP (sP (sQ sR))))) (fun w hS => run_orU rfl rfl) ?_
   refine AT 12 rfl (hH38.sub (sP (sP (sP (sQ sR))))) (fun w hS => aV (U _) rfl) ?_
   refine AD ?_
   refine CW.region ?_
   refine V (run_add e14_7 rfl (by omega)) ?_
   refine V (mV (I _) rfl) ?_
   refine RL.nil ?_
   refine ⟨(k + 1, _, _), ?_, fr7.u4.u4.u4.u4.u4.u4.u1.u1.u1, (hH38.sub (sQ sR)), rfl, (congrArg I (by first | rfl | omega)), ?_, ?_, ?_⟩
   ·((try dsimp only); omega)
   ·omega
   ·omega
   ·exact ri_next h0 ‹k < _› hm ‹_› ‹_›
 ·refine CW.exit (id := 0) rfl ?_
  refine SR ?_
  refine V (run_move e7_7) ?_
  refine V (aV (U _) rfl) ?_
  refine RL.nil ?_
  refine CW.ret ?_
  exact out1 Tryz.results45 rfl ⟨_, s1, rfl, by first | exact ri_no h0 ‹k < _› hm ‹_› | exact ri_end ‹_› hm, Hp.conv ((hH7.perm (((pC ((pC pR).trans pS)).trans pS).trans (pC pR))).sub (sP (sQ (sQ sR)))) (by rfl)⟩

theorem c_spell_kind (f : Fac) (w : World) : Calls Tryz.prog 42 #[.agg (facC f)] w (Pure (I (kindN f.fc)) w) := by
 refine enter Tryz.func42 rfl Tryz.ntmps42 rfl ?_
 have hH := Hp.start w
 refine SR ?_
 refine RL.new rfl hH (f := fun b => (.pointer (some ⟨b, 0, none⟩))) (run_box (v := .agg _) rfl) ?_
 intro b3 w1 hH2
 refine V (aV (I 0) rfl) ?_
 refine RL.nil ?_
 refine CW.seq ?_
 refine SR ?_
 refine V (fA underlying50 0 rfl sizeOf3 rfl) ?_
 refine V (run_ld underlying3 rfl rfl (hH2.cell (i := 0) rfl (v := I _) rfl)) ?_
 refine RL.nil ?_
 refine CW.block ?_
 refine SR ?_
 refine V (run_eql rfl rfl) ?_
 refine V (aV (B _) rfl) ?_
 refine RL.nil ?_
 refine CW.condP rfl (fun h5 => ?_) (fun h5 => ?_)
 ·refine SR ?_
  refine V (aV (I 3) rfl) ?_
  refine RL.nil ?_
  refine CW.ret ?_
  refine outP1 Tryz.results42 (congrArg I ?_) hH2.below
  (simp [kindN, Fac.fc, *])
 ·refine SR ?_
  refine V (run_eql rfl rfl) ?_
  refine V (aV (B _) rfl) ?_
  refine RL.nil ?_
  refine CW.condP rfl (fun h7 => ?_) (fun h7 => ?_)
  ·refine SR ?_
   refine V (aV (I 5) rfl) ?_
   refine RL.nil ?_
   refine CW.ret ?_
   refine outP1 Tryz.results42 (congrArg I ?_) hH2.below
   (simp [kindN, Fac.fc, *])
  ·refine CW.skip ?_
   refine SR ?_
   refine V (aV (I 2) rfl) ?_
   refine RL.nil ?_
   refine CW.ret ?_
   refine outP1 Tryz.results42 (congrArg I ?_) hH2.below
   (simp [kindN, Fac.fc, *])

theorem c_spell_reader_word (W0 : World) (b : Nat) (s : RS) (L : List Ent) (f : Fac) (n : NodeR) (w : World) (hT : Tab W0) (hf : FacV (Kw W0) f) (hn : NodeV (Kw W0) n) (hH : Hp W0 w (.blk b (.cells #[B s.1, I s.2] 58 (0, 0)) :: L)) : Calls Tryz.prog 23 #[.pointer (some ⟨b, 0, none⟩), .agg (facC f), .agg (nodeL n).toArray] w (Ret fun u w' => ∃ (y : BitVec 64) (s' : RS), u = U y ∧ (okR (wordG f.fc n.nd) s y s') ∧ Hp W0 w' (.blk b (.cells #[B s'.1, I s'.2] 58 (0, 0)) :: L)) := by
 refine enter Tryz.func23 rfl Tryz.ntmps23 rfl ?_
 refine SR ?_
 refine RL.new rfl hH (f := fun b => (.pointer (some ⟨b, 0, none⟩))) (run_box (v := .agg _) rfl) ?_
 intro b3 w1 hH2
 refine RL.new rfl hH2 (f := fun b => (.pointer (some ⟨b, 0, none⟩))) (run_box (v := .agg _) rfl) ?_
 intro b6 w4 hH5
 refine V (aV (U 0#64) rfl) ?_
 refine RL.nil ?_
 refine CW.seq ?_
 refine CW.seq ?_
 refine CW.regionD (by kernel_rfl) hH5 ?_
 intro w7 hH8
 refine AT 0 rfl (hH8.sub sR) (fun w hS => fA underlying28 0 rfl sizeOf3 rfl) ?_
 refine AT 1 rfl (hH8.sub sR) (fun w hS => run_ld underlying3 rfl rfl (hS.cell (i := 0) rfl (v := I _) rfl)) ?_
 refine AT 2 rfl (hH8.sub sR) (fun w hS => run_ldFac underlying50 rfl rfl rfl (hS.blk (i := 1) rfl)) ?_
 refine A1 3 ?_
 refine AO.callP rfl gnone rfl hH8 sR (c_spell_kind _  _) (run_call1 call42 rfl) ?_
 intro w9 hH10
 refine AT 4 rfl (hH10.sub sR) (fun w hS => run_neq rfl rfl) ?_
 refine AD ?_
 refine CW.condP rfl (fun h12 => ?_) (fun h12 => ?_)
 ·refine SR ?_
  refine V (mV (Pn _ _) rfl) ?_
  refine V (fA underlying28 1 rfl sizeOf3 rfl) ?_
  refine V (run_ld underlying3 rfl rfl (hH10.cell (i := 0) rfl (v := I _) rfl)) ?_
  refine RL.callT rfl (c_spell_reader_fail _ _ _ _ _ _ (hH10.perm (((pC ((pC pR).trans pS)).trans pS).trans (pC pR)))) (run_call2 call43 rfl rfl) ?_
  rintro _ w18 ⟨_, _, rfl, ⟨rfl, rfl⟩, h19⟩
  have hH20 := h19.perm (((pC pR).trans pS).trans (pC (((pC pR).trans pS).trans (pC pR))))
  refine V (aV (U _) rfl) ?_
  refine RL.nil ?_
  refine CW.ret ?_
  exact out1 Tryz.results23 rfl ⟨_, (failF s n.place), rfl, by first | exact wd_no ‹_› | exact wd_2 ‹_› ‹_› ‹_› | exact wd_3 ‹_› ‹_› ‹_› ‹_› | exact wd_1 ‹_› ‹_› ‹_› ‹_›, Hp.conv ((hH20.perm (((pC ((pC pR).trans pS)).trans pS).trans (pC pR))).sub (sP (sQ (sQ sR)))) (by rfl)⟩
 ·refine CW.skip ?_
  refine CW.seq ?_
  refine SR ?_
  refine V (fA underlying50 0 rfl sizeOf3 rfl) ?_
  refine V (run_ld underlying3 rfl rfl (hH10.cell (i := 1) rfl (v := I _) rfl)) ?_
  refine RL.nil ?_
  refine CW.block ?_
  refine SR ?_
  refine V (run_eql rfl rfl) ?_
  refine V (aV (B _) rfl) ?_
  refine RL.nil ?_
  refine CW.condP rfl (fun h22 => ?_) (fun h22 => ?_)
  ·refine SR ?_
   refine V (mV (Pn _ _) rfl) ?_
   refine V (fA underlying50 1 rfl sizeOf45 rfl) ?_
   refine V (run_ld underlying45 rfl rfl (hH10.cell (i := 1) rfl rfl)) ?_
   refine V (fA underlying28 3 rfl sizeOf25 rfl) ?_
   refine V (run_ldV (hn.names_.sl.hp hH10) underlying25 rfl rfl (hH10.cell (i := 0) rfl rfl)) ?_
   refine RL.callT rfl (c_spell_reader_places _ _ _ _ _ _ _ _ _ hf.names.sl hn.names_.sl (hH10.perm (((pC ((pC pR).trans pS)).trans pS).trans (pC pR)))) (run_call3 call44 rfl rfl rfl) ?_
   rintro _ w28 ⟨y25, s26, rfl, e27, h29⟩
   have hH30 := h29.perm (((pC pR).trans pS).trans (pC (((pC pR).trans pS).trans (pC pR))))
   refine V (aV (U _) rfl) ?_
   refine RL.nil ?_
   refine CW.ret ?_
   exact out1 Tryz.results23 rfl ⟨_, s26, rfl, by first | exact wd_no ‹_› | exact wd_2 ‹_› ‹_› ‹_› | exact wd_3 ‹_› ‹_› ‹_› ‹_› | exact wd_1 ‹_› ‹_› ‹_› ‹_›, Hp.conv ((hH30.perm (((pC ((pC pR).trans pS)).trans pS).trans (pC pR))).sub (sP (sQ (sQ sR)))) (by rfl)⟩
  ·refine SR ?_
   refine V (run_eql rfl rfl) ?_
   refine V (aV (B _) rfl) ?_
   refine RL.nil ?_
   refine CW.condP rfl (fun h32 => ?_) (fun h32 => ?_)
   ·refine SR ?_
    refine V (mV (Pn _ _) rfl) ?_
    refine V (run_ldFac underlying50 rfl rfl rfl (hH10.blk (i := 1) rfl)) ?_
    refine V (run_ldA (cs := nodeL _) underlying28 rfl rfl rfl (rangeAt_cells (hH10.blk (i := 0) rfl))) ?_
    refine RL.callT rfl (c_spell_reader_rules _ _ _ _ _ _ _ hT hf hn (hH10.perm (((pC ((pC pR).trans pS)).trans pS).trans (pC pR)))) (run_call3 call45 rfl rfl rfl) ?_
    rintro _ w38 ⟨y35, s36, rfl, e37, h39⟩
    have hH40 := h39.perm (((pC pR).trans pS).trans (pC (((pC pR).trans pS).trans (pC pR))))
    refine V (aV (U _) rfl) ?_
    refine RL.nil ?_
    refine CW.ret ?_
    exact out1 Tryz.results23 rfl ⟨_, s36, rfl, by first | exact wd_no ‹_› | exact wd_2 ‹_› ‹_› ‹_› | exact wd_3 ‹_› ‹_› ‹_› ‹_› | exact wd_1 ‹_› ‹_› ‹_› ‹_›, Hp.conv ((hH40.perm (((pC ((pC pR).trans pS)).trans pS).trans (pC pR))).sub (sP (sQ (sQ sR)))) (by rfl)⟩
   ·refine CW.skip ?_
    refine SR ?_
    refine V (mV (Pn _ _) rfl) ?_
    refine V (run_ldFac underlying50 rfl rfl rfl (hH10.blk (i := 1) rfl)) ?_
    refine V (run_ldA (cs := nodeL _) underlying28 rfl rfl rfl (rangeAt_cells (hH10.blk (i := 0) rfl))) ?_
    refine RL.callT rfl (c_spell_reader_point _ _ _ _ _ _ _ hT hf hn (hH10.perm (((pC ((pC pR).trans pS)).trans pS).trans (pC pR)))) (run_call3 call46 rfl rfl rfl) ?_
    rintro _ w46 ⟨y43, s44, rfl, e45, h47⟩
    have hH48 := h47.perm (((pC pR).trans pS).trans (pC (((pC pR).trans pS).trans (pC pR))))
    refine V (aV (U _) rfl) ?_
    refine RL.nil ?_
    refine CW.ret ?_
    exact out1 Tryz.results23 rfl ⟨_, s44, rfl, by first | exact wd_no ‹_› | exact wd_2 ‹_› ‹_› ‹_› | exact wd_3 ‹_› ‹_› ‹_› ‹_› | exact wd_1 ‹_› ‹_› ‹_› ‹_›, Hp.conv ((hH48.perm (((pC ((pC pR).trans pS)).trans pS).trans (pC pR))).sub (sP (sQ (sQ sR)))) (by rfl)⟩

theorem c_spell_parts (K : Vu) (s : Shp) (n : NodeR) (w : World) (hK : Le K (Kw w)) (hs : ShpV K s) (hn : NodeV K n) : Calls Tryz.prog 20 #[.agg (shpC s), .agg (nodeL n).toArray] w (PureF K (fun K' u => ∃ v, u = .tuple #[v, B (partB s n)] ∧ SlV K' v 5 (partsR s n).length ((partsR s n).flatMap nodeL)) w) := by
 have hm1 := hn.kids_.small
 have hm2 := hs.facs.small
 unfold maxLen at hm1 hm2
 refine enter Tryz.func20 rfl Tryz.ntmps20 rfl ?_
 have hH := Hp.start w
 refine SR ?_
 refine RL.new rfl hH (f := fun b => (.pointer (some ⟨b, 0, none⟩))) (run_box (v := .agg _) rfl) ?_
 intro b3 w1 hH2
 refine RL.new rfl hH2 (f := fun b => (.pointer (some ⟨b, 0, none⟩))) (run_box (v := .agg _) rfl) ?_
 intro b6 w4 hH5
 refine V (aV (.slice none 0 0) rfl) ?_
 refine V (aV (B false) rfl) ?_
 refine RL.nil ?_
 refine CW.seq ?_
 refine SR ?_
 refine V (fA underlying24 0 rfl sizeOf4 rfl) ?_
 refine V (run_ld underlying4 rfl rfl (hH5.cell (i := 1) rfl (v := B _) rfl)) ?_
 refine V (run_not rfl) ?_
 refine RL.nil ?_
 refine CW.cond rfl (fun h9 => ?_) (fun h9 => ?_)
 ·refine SR ?_
  refine V (run_ldA (cs := nodeL _) underlying28 rfl rfl rfl (rangeAt_cells (hH5.blk (i := 0) rfl))) ?_
  refine RL.new rfl hH5 (f := fun b => (.slice (some ⟨b, 0, none⟩) 1 1)) (run_mkRecs nodeL_len underlying26 rfl rfl rfl (l := [n]) rfl (by decide) (by decide) rfl) ?_
  intro b12 w10 hH11
  refine V (run_assign (by conv => lhs; whnf)) ?_
  refine V (aV (B true) rfl) ?_
  refine RL.nil ?_
  refine CW.ret ?_
  have hH13 : Hp _ w10 (_ :: _ :: [Ent.blk b12 (.cells ([n].flatMap nodeL).toArray 28 (0, 0))]) := Hp.zin0 (Z := [Ent.blk b12 (.cells ([n].flatMap nodeL).toArray 28 (0, 0))]) (L := [_, _]) hH11
  refine out2 Tryz.results20 (x := .slice (some ⟨b12, 0, none⟩) 1 1) (y := B true) rfl rfl ⟨[Ent.blk b12 (.cells ([n].flatMap nodeL).toArray 28 (0, 0))], (hH13.sub (sQ (sQ sR))), .slice (some ⟨b12, 0, none⟩) 1 1, ?_, ?_⟩
  ·simp [partB, *]
  ·rw [← partsR_1 (nt ‹(!s.tuple) = true›)]; exact slv_blk (c := [n].flatMap nodeL) (List.mem_cons_self ..) (flat_length nodeL_len _) (by simp [maxLen])
 ·refine CW.skip ?_
  refine CW.seq ?_
  refine CW.regionD (by kernel_rfl) hH5 ?_
  intro w14 hH15
  refine AT 0 rfl (hH15.sub sR) (fun w hS => fA underlying28 4 rfl sizeOf26 rfl) ?_
  refine AT 1 rfl (hH15.sub sR) (fun w hS => run_ldV ((NodeV.mono hK hn).kids_.sl.hp hS) underlying26 rfl rfl (hS.cell (i := 0) rfl rfl)) ?_
  refine AT 2 rfl (hH15.sub sR) (fun w hS => fA underlying28 0 rfl sizeOf3 rfl) ?_
  refine AT 3 rfl (hH15.sub sR) (fun w hS => run_ld underlying3 rfl rfl (hS.cell (i := 0) rfl (v := I _) rfl)) ?_
  refine AT 4 rfl (hH15.sub sR) (fun w hS => run_eql rfl rfl) ?_
  refine AT 5 rfl (hH15.sub sR) (fun w hS => mV (B _) rfl) ?_
  refine AN.splitP (dj := 16) rfl (fun h17 => ?_) (fun h17 => ?_)
  ·refine AG 6 rfl rfl (bT h17) (hH15.sub sR) (fun w hS => fA underlying28 4 rfl sizeOf26 rfl) ?_
   refine AG 7 rfl rfl (bT h17) (hH15.sub sR) (fun w hS => run_ldV ((NodeV.mono hK hn).kids_.sl.hp hS) underlying26 rfl rfl (hS.cell (i := 0) rfl rfl)) ?_
   refine AG 8 rfl rfl (bT h17) (hH15.sub sR) (fun w hS => run_lenSl ((NodeV.mono hK hn).kids_.sl.hp hS) rfl underlying26 rfl) ?_
   refine AG 9 rfl rfl (bT h17) (hH15.sub sR) (fun w hS => fA underlying24 1 rfl sizeOf22 rfl) ?_
   refine AG 10 rfl rfl (bT h17) (hH15.sub sR) (fun w hS => run_ld underlying22 rfl rfl (hS.cell (i := 1) rfl rfl)) ?_
   refine AG 11 rfl rfl (bT h17) (hH15.sub sR) (fun w hS => run_lenSl ((hs.mono hK).facs.sl.hp hS) rfl underlying22 rfl) ?_
   refine AG 12 rfl rfl (bT h17) (hH15.sub sR) (fun w hS => run_eql rfl rfl) ?_
   refine AT 13 rfl (hH15.sub sR) (fun w hS => run_pickT (bT h17) (v := B _) rfl) ?_
   refine AT 14 rfl (hH15.sub sR) (fun w hS => run_assign (by conv => lhs; whnf)) ?_
   refine AT 15 rfl (hH15.sub sR) (fun w hS => aV (B _) rfl) ?_
   refine AD ?_
   refine CW.ret ?_
   refine out2 Tryz.results20 (x := n.kv) (y := B _) rfl rfl ⟨[], (hH15.sub (sQ (sQ sR))), n.kv, ?_, ?_⟩
   ·(simp [partB, *]; try omega)
   ·rw [← partsR_2 (nf ‹(!s.tuple) = false›)]; exact hn.kids_.mono (Le.z _ _)
  ·refine AK 6 rfl rfl (bF h17) (hH15.sub sR) ?_
   refine AK 7 rfl rfl (bF h17) (hH15.sub sR) ?_
   refine AK 8 rfl rfl (bF h17) (hH15.sub sR) ?_
   refine AK 9 rfl rfl (bF h17) (hH15.sub sR) ?_
   refine AK 10 rfl rfl (bF h17) (hH15.sub sR) ?_
   refine AK 11 rfl rfl (bF h17) (hH15.sub sR) ?_
   refine AK 12 rfl rfl (bF h17) (hH15.sub sR) ?_
   refine AT 13 rfl (hH15.sub sR) (fun w hS => run_pickF (bF h17) (v := B false) rfl) ?_
   refine AT 14 rfl (hH15.sub sR) (fun w hS => run_assign (by conv => lhs; whnf)) ?_
   refine AT 15 rfl (hH15.sub sR) (fun w hS => aV (B _) rfl) ?_
   refine AD ?_
   refine CW.ret ?_
   refine out2 Tryz.results20 (x := n.kv) (y := B _) rfl rfl ⟨[], (hH15.sub (sQ (sQ sR))), n.kv, ?_, ?_⟩
   ·(simp [partB, *]; try omega)
   ·rw [← partsR_2 (nf ‹(!s.tuple) = false›)]; exact hn.kids_.mono (Le.z _ _)

theorem c_spell_Elem (s : Shp) (n : NodeR) (w : World) (hs : ShpV (Kw w) s) (hn : NodeV (Kw w) n) (hT : Tab w) : Calls Tryz.prog 9 #[.agg (shpC s), .agg (nodeL n).toArray] w (Pure (.tuple #[.agg (elC (resE (elemG s.sh n.nd)).1), .agg (fltL (resE (elemG s.sh n.nd)).2).toArray]) w) := by
 have hsl := sh_len s
 have hm := hs.facs.sl.small
 unfold maxLen at hm
 have hnv := partsR_v (s := s) hn
 refine enter Tryz.func9 rfl Tryz.ntmps9 rfl ?_
 have hH := Hp.start w
 refine SR ?_
 refine RL.new rfl hH (f := fun b => (.pointer (some ⟨b, 0, none⟩))) (run_box (v := .agg _) rfl) ?_
 intro b3 w1 hH2
 refine RL.new rfl hH2 (f := fun b => (.pointer (some ⟨b, 0, none⟩))) (run_box (v := .agg _) rfl) ?_
 intro b6 w4 hH5
 refine RL.new rfl hH5 (f := fun b => (.pointer (some ⟨b, 0, none⟩))) (run_alloc zero_el) ?_
 intro b9 w7 hH8
 refine RL.new rfl hH8 (f := fun b => (.pointer (some ⟨b, 0, none⟩))) (run_alloc zero_flt) ?_
 intro b12 w10 hH11
 refine RL.nil ?_
 refine SR ?_
 refine RL.new rfl hH11 (f := fun b => (.pointer (some ⟨b, 0, none⟩))) (run_alloc zero_el) ?_
 intro b15 w13 hH14
 refine RL.nil ?_
 refine SR ?_
 refine V (run_ldA (cs := [B _, _]) underlying24 rfl rfl rfl (rangeAt_cells (hH14.blk (i := 4) rfl))) ?_
 refine V (run_ldA (cs := nodeL _) underlying28 rfl rfl rfl (rangeAt_cells (hH14.blk (i := 3) rfl))) ?_
 refine RL.callF rfl hH14 (c_spell_parts (Kw w) s n _ hH14.kw hs hn) (run_call2 call20 rfl rfl) ?_
 intro v18 w19 Z21 hH20 hp22
 have hH23 : Hp _ w19 (_ :: _ :: _ :: _ :: _ :: Z21) := hH20.zin0 (L := [_, _, _, _, _])
 obtain ⟨v24, rfl, hv25⟩ := hp22
 refine V (run_move (by conv => lhs; whnf)) ?_
 refine V (run_extract rfl rfl) ?_
 refine V (run_extract rfl (v := B _) rfl) ?_
 refine V (run_assign (by conv => lhs; whnf)) ?_
 refine V (aV (B _) rfl) ?_
 refine RL.nil ?_
 refine CW.seq ?_
 refine SR ?_
 refine V (mV (B _) rfl) ?_
 refine V (run_not rfl) ?_
 refine V (mV (B _) rfl) ?_
 refine RL.split (dj := 20) rfl (fun h28 => ?_) (fun h28 => ?_)
 ·refine RL.gF rfl rfl (bR (c := true) h28) rfl ?_
  refine RL.gF rfl rfl (bR (c := true) h28) rfl ?_
  refine RL.gF rfl rfl (bR (c := true) h28) rfl ?_
  refine V (run_pickT (bR (c := true) h28) (v := B true) rfl) ?_
  refine V (mV (B _) rfl) ?_
  refine RL.gF rfl rfl rfl rfl ?_
  refine RL.gF rfl rfl rfl rfl ?_
  refine RL.gF rfl rfl rfl rfl ?_
  refine V (run_pickT rfl (v := B true) rfl) ?_
  refine RL.nil ?_
  refine CW.condT rfl ?_
  refine CW.seq ?_
  refine CW.regionS (by kernel_rfl) hH23 (sP (sQ (sQ sR))) ?_
  intro w29 hH30
  refine AT 0 rfl (hH30.sub (sP (sQ (sQ sR)))) (fun w hS => run_ldEl underlying34 rfl rfl rfl (hS.blk (i := 0) rfl)) ?_
  refine AT 1 rfl (hH30.sub (sP (sQ (sQ sR)))) (fun w hS => fA underlying28 1 rfl sizeOf3 rfl) ?_
  refine AT 2 rfl (hH30.sub (sP (sQ (sQ sR)))) (fun w hS => run_ld underlying3 rfl rfl (hS.cell (i := 1) rfl (v := I _) rfl)) ?_
  refine AT 3 rfl (hH30.sub (sP (sQ (sQ sR)))) (fun w hS => run_bld (vs := [(0, I 4), (1, I _)]) rfl (built_fltL _ _)) ?_
  refine A1 4 ?_
  refine AO.set rfl gnone hH30 (j := 2) rfl (sP (sQ (sQ sR))) (run_stEl rfl rfl rfl (hH30.blk (i := 2) rfl)) ?_
  intro w33 hH34
  simp only [z0, z1] at hH34
  refine A1 5 ?_
  refine AO.set rfl gnone hH34 (j := 1) rfl (sP (sQ (sQ sR))) (run_stW (c' := (fltL _).toArray) rfl rfl rfl (by simp [fltL, Value.oneCell']) (hH34.blk (i := 1) rfl) rfl) ?_
  intro w37 hH38
  simp only [z0, z1] at hH38
  refine AD ?_
  refine CW.ret ?_
  refine outCC Tryz.results9 rfl rfl hH38 (i := 2) (j := 1) rfl rfl underlying34 rfl (by rw [elC_size]; rfl) underlying36 rfl rfl ⟨?_, hH38.below⟩
  first | exact res_er (el_no1 (nt ‹(!partB s n) = true›)) | exact res_er (el_no2 (nt ‹(!shR s.sh) = true›)) | exact res_er (el_no3 (nt ‹(!constB n.nd) = true›)) | exact res_er ((el_yes hP hR (nf ‹(!constB n.nd) = false›)).trans (ei_er hm ‹s1.1 = true›)) | exact res_ok ((el_yes hP hR (nf ‹(!constB n.nd) = false›)).trans (ei_ok (by omega) hm (by simp [*])))
 ·refine RL.gT rfl (bR (c := false) h28) ?_
  refine V (run_ldA (cs := [B _, _]) underlying24 rfl rfl rfl (rangeAt_cells (hH23.blk (i := 4) rfl))) ?_
  refine RL.gT rfl (bR (c := false) h28) ?_
  refine RL.callP rfl hH23 (c_shape_Right _  _ (hs.mono hH23.kw) (hT.hp hH23)) (run_call1 call21 rfl) ?_
  intro w39 hH40
  refine RL.gT rfl (bR (c := false) h28) ?_
  refine V (run_not rfl) ?_
  refine V (run_pickF (bR (c := false) h28) (v := B _) rfl) ?_
  refine V (mV (B _) rfl) ?_
  refine RL.split (dj := 25) rfl (fun h43 => ?_) (fun h43 => ?_)
  ·refine RL.gF rfl rfl (bR (c := true) h43) rfl ?_
   refine RL.gF rfl rfl (bR (c := true) h43) rfl ?_
   refine RL.gF rfl rfl (bR (c := true) h43) rfl ?_
   refine V (run_pickT (bR (c := true) h43) (v := B true) rfl) ?_
   refine RL.nil ?_
   refine CW.condT rfl ?_
   refine CW.seq ?_
   refine CW.regionS (by kernel_rfl) hH40 (sP (sQ (sQ sR))) ?_
   intro w44 hH45
   refine AT 0 rfl (hH45.sub (sP (sQ (sQ sR)))) (fun w hS => run_ldEl underlying34 rfl rfl rfl (hS.blk (i := 0) rfl)) ?_
   refine AT 1 rfl (hH45.sub (sP (sQ (sQ sR)))) (fun w hS => fA underlying28 1 rfl sizeOf3 rfl) ?_
   refine AT 2 rfl (hH45.sub (sP (sQ (sQ sR)))) (fun w hS => run_ld underlying3 rfl rfl (hS.cell (i := 1) rfl (v := I _) rfl)) ?_
   refine AT 3 rfl (hH45.sub (sP (sQ (sQ sR)))) (fun w hS => run_bld (vs := [(0, I 4), (1, I _)]) rfl (built_fltL _ _)) ?_
   refine A1 4 ?_
   refine AO.set rfl gnone hH45 (j := 2) rfl (sP (sQ (sQ sR))) (run_stEl rfl rfl rfl (hH45.blk (i := 2) rfl)) ?_
   intro w48 hH49
   simp only [z0, z1] at hH49
   refine A1 5 ?_
   refine AO.set rfl gnone hH49 (j := 1) rfl (sP (sQ (sQ sR))) (run_stW (c' := (fltL _).toArray) rfl rfl rfl (by simp [fltL, Value.oneCell']) (hH49.blk (i := 1) rfl) rfl) ?_
   intro w52 hH53
   simp only [z0, z1] at hH53
   refine AD ?_
   refine CW.ret ?_
   refine outCC Tryz.results9 rfl rfl hH53 (i := 2) (j := 1) rfl rfl underlying34 rfl (by rw [elC_size]; rfl) underlying36 rfl rfl ⟨?_, hH53.below⟩
   first | exact res_er (el_no1 (nt ‹(!partB s n) = true›)) | exact res_er (el_no2 (nt ‹(!shR s.sh) = true›)) | exact res_er (el_no3 (nt ‹(!constB n.nd) = true›)) | exact res_er ((el_yes hP hR (nf ‹(!constB n.nd) = false›)).trans (ei_er hm ‹s1.1 = true›)) | exact res_ok ((el_yes hP hR (nf ‹(!constB n.nd) = false›)).trans (ei_ok (by omega) hm (by simp [*])))
  ·refine RL.gT rfl (bR (c := false) h43) ?_
   refine V (run_ldA (cs := nodeL _) underlying28 rfl rfl rfl (rangeAt_cells (hH40.blk (i := 3) rfl))) ?_
   refine RL.gT rfl (bR (c := false) h43) ?_
   refine RL.callP rfl hH40 (c_term_IsConst _  _ (hn.mono hH40.kw)) (run_call1 call22 rfl) ?_
   intro w54 hH55
   refine RL.gT rfl (bR (c := false) h43) ?_
   refine V (run_not rfl) ?_
   refine V (run_pickF (bR (c := false) h43) (v := B _) rfl) ?_
   refine RL.nil ?_
   refine CW.cond rfl (fun h58 => ?_) (fun h58 => ?_)
   ·refine CW.seq ?_
    refine CW.regionS (by kernel_rfl) hH55 (sP (sQ (sQ sR))) ?_
    intro w59 hH60
    refine AT 0 rfl (hH60.sub (sP (sQ (sQ sR)))) (fun w hS => run_ldEl underlying34 rfl rfl rfl (hS.blk (i := 0) rfl)) ?_
    refine AT 1 rfl (hH60.sub (sP (sQ (sQ sR)))) (fun w hS => fA underlying28 1 rfl sizeOf3 rfl) ?_
    refine AT 2 rfl (hH60.sub (sP (sQ (sQ sR)))) (fun w hS => run_ld underlying3 rfl rfl (hS.cell (i := 1) rfl (v := I _) rfl)) ?_
    refine AT 3 rfl (hH60.sub (sP (sQ (sQ sR)))) (fun w hS => run_bld (vs := [(0, I 4), (1, I _)]) rfl (built_fltL _ _)) ?_
    refine A1 4 ?_
    refine AO.set rfl gnone hH60 (j := 2) rfl (sP (sQ (sQ sR))) (run_stEl rfl rfl rfl (hH60.blk (i := 2) rfl)) ?_
    intro w63 hH64
    simp only [z0, z1] at hH64
    refine A1 5 ?_
    refine AO.set rfl gnone hH64 (j := 1) rfl (sP (sQ (sQ sR))) (run_stW (c' := (fltL _).toArray) rfl rfl rfl (by simp [fltL, Value.oneCell']) (hH64.blk (i := 1) rfl) rfl) ?_
    intro w67 hH68
    simp only [z0, z1] at hH68
    refine AD ?_
    refine CW.ret ?_
    refine outCC Tryz.results9 rfl rfl hH68 (i := 2) (j := 1) rfl rfl underlying34 rfl (by rw [elC_size]; rfl) underlying36 rfl rfl ⟨?_, hH68.below⟩
    first | exact res_er (el_no1 (nt ‹(!partB s n) = true›)) | exact res_er (el_no2 (nt ‹(!shR s.sh) = true›)) | exact res_er (el_no3 (nt ‹(!constB n.nd) = true›)) | exact res_er ((el_yes hP hR (nf ‹(!constB n.nd) = false›)).trans (ei_er hm ‹s1.1 = true›)) | exact res_ok ((el_yes hP hR (nf ‹(!constB n.nd) = false›)).trans (ei_ok (by omega) hm (by simp [*])))
   ·refine CW.skip ?_
    refine SR ?_
    refine V (run_bld (vs := []) rfl built_rdrL0) ?_
    refine RL.new rfl hH55 (f := fun b => (.pointer (some ⟨b, 0, none⟩))) (run_box (v := .agg _) rfl) ?_
    intro b71 w69 hH70
    refine V (aV (Pn _ _) rfl) ?_
    refine RL.nil ?_
    refine CW.seq ?_
    refine SR ?_
    refine V (fA underlying24 1 rfl sizeOf22 rfl) ?_
    refine V (run_ld underlying22 rfl rfl (hH70.cell (i := 5) rfl rfl)) ?_
    refine V (run_lenSl (hs.facs.sl.hp hH70) rfl underlying22 rfl) ?_
    refine V (mV (I 0) rfl) ?_
    refine RL.nil ?_
    refine CW.block ?_
    have hP := nf ‹(!partB s n) = false›
    have hR := nf ‹(!shR s.sh) = false›
    have hpl := parts_len hP hR
    have hzl := zip_len hpl
    have h8 := (sh_spec hR).1
    refine CW.loop (G := (Int) × (El) × (RS)) (fun (⟨k, e1, s1⟩ : (Int) × (El) × (RS)) s' w' => (Fr [10, 11, 39, 40, 41, 42, 43, 44, 45, 46, 47, 48, 49, 50, 51, 52, 53] _ s') ∧ (Hp w w' (.blk b71 (.cells (#[B s1.1, I s1.2]) 58 (0, 0)) :: .blk b15 (.cells (elC e1) 34 (0, 0)) :: _)) ∧ (s' 39 = I k) ∧ (0 ≤ k) ∧ (k ≤ s.facs.length) ∧ (EInv (zipF s n) k e1 s1)) (fun (⟨k, e1, s1⟩ : (Int) × (El) × (RS)) => (s.facs.length - k).toNat) ((0, el0, (false, 0))) ⟨Fr.refl _ _, hH70, rfl, (by omega), (by omega), ei_0⟩ ?_
    rintro ⟨k, e1, s1⟩ sg72 w72 ⟨fr72, hH72, e39_72, h0, hk, hm⟩
    have e4_72 : sg72 4 = Pn _ _ := (fr72 4 rfl).trans rfl
    have e5_72 : sg72 5 = Pn _ _ := (fr72 5 rfl).trans rfl
    have e6_72 : sg72 6 = Pn _ _ := (fr72 6 rfl).trans rfl
    have e7_72 := (fr72 7 rfl).trans (by conv => lhs; whnf)
    have e9_72 : sg72 9 = Pn _ _ := (fr72 9 rfl).trans rfl
    have e37_72 := (fr72 37 rfl).trans (by conv => lhs; whnf)
    have e38_72 : sg72 38 = I _ := (fr72 38 rfl).trans rfl
    refine SR ?_
    refine V (run_lss e39_72 e38_72) ?_
    refine RL.nil ?_
    refine CW.seq ?_
    refine CW.condP rfl (fun h74 => ?_) (fun h74 => ?_)
    ·refine CW.skip ?_
     refine CW.seq ?_
     refine CW.block ?_
     refine SR ?_
     refine V (run_move e39_72) ?_
     refine V (run_indexAddrS (hs.facs.sl.hp hH72) underlying22 sizeOf50 e37_72 e39_72 (by omega)) ?_
     refine V (run_ldE (dv := fac0) facL_len (hs.facs.sl.hp hH72) underlying50 rfl rfl rfl (by omega)) ?_
     refine RL.new rfl hH72 (f := fun b => (.pointer (some ⟨b, 0, none⟩))) (run_alloc zero_fac) ?_
     intro b77 w75 hH76
     refine V (aV (I _) rfl) ?_
     refine RL.set hH76 (i := 0) rfl (run_stFac (hs.at (by omega) (by omega)) rfl rfl rfl (hH76.blk (i := 0) rfl)) ?_
     intro w78 hH79
     simp only [z0, z1] at hH79
     refine RL.nil ?_
     refine CW.regionS (by kernel_rfl) hH79 (sP (sQ (sQ sR))) ?_
     intro w80 hH81
     refine AT 0 rfl (hH81.sub (sP (sQ (sQ sR)))) (fun w hS => mV (I _) rfl) ?_
     refine AT 1 rfl (hH81.sub (sP (sQ (sQ sR)))) (fun w hS => run_move e9_72) ?_
     refine AT 2 rfl (hH81.sub (sP (sQ (sQ sR)))) (fun w hS => run_ldFac underlying50 rfl rfl rfl (hS.blk (i := 0) rfl)) ?_
     refine AT 3 rfl (hH81.sub (sP (sQ (sQ sR)))) (fun w hS => run_move e7_72) ?_
     refine AT 4 rfl (hH81.sub (sP (sQ (sQ sR)))) (fun w hS => mV (I _) rfl) ?_
     refine AT 5 rfl (hH81.sub (sP (sQ (sQ sR)))) (fun w hS => run_indexAddrS (hv25.mono (hS.kz (Le.refl _) (fun x hx => (mT (mT (mT (mT (mT hx)))))))).sl underlying26 sizeOf28 rfl rfl (by omega)) ?_
     refine AT 6 rfl (hH81.sub (sP (sQ (sQ sR)))) (fun w hS => run_ldE (dv := node0) nodeL_len (hv25.mono (hS.kz (Le.refl _) (fun x hx => (mT (mT (mT (mT (mT hx)))))))).sl underlying28 rfl rfl rfl (by omega)) ?_
     refine A1 7 ?_
     refine AO.callT rfl gnone rfl (c_spell_reader_word _ _ _ _ _ _ _ hT (hs.at h0 ‹k < _›) (hnv.at h0 (by omega)) (hH81.perm (((pC pR).trans pS).trans (pC pR)))) (run_call3 call23 rfl rfl rfl) (fun u w' ⟨_, _, _, _, h⟩ => (h.sub (sQ (sP (sQ sR))))) ?_
     rintro _ w87 ⟨y84, s85, rfl, e86, h88⟩
     have hH89 := h88.perm (((pC pR).trans pS).trans (pC pR))
     refine AT 8 rfl (hH89.sub (sP (sQ (sQ sR)))) (fun w hS => run_indexAddrA underlying34 sizeOf32 e6_72 rfl (by omega)) ?_
     refine A1 9 ?_
     refine AO.set rfl gnone hH89 (j := 2) rfl (sP (sQ (sQ sR))) (run_st rfl rfl (v := U _) rfl rfl rfl (hH89.blk (i := 2) rfl) (by rw [elC_size]; omega)) ?_
     intro w92 hH93
     simp only [z0, z1] at hH93
     rw [elC_put] at hH93
     refine AD ?_
     refine CW.region ?_
     refine V (run_add e39_72 rfl (by omega)) ?_
     refine V (mV (I _) rfl) ?_
     refine RL.nil ?_
     refine ⟨(k + 1, _, _), ?_, fr72.u4.u4.u4.u4.u1, (hH93.sub (sQ sR)), (congrArg I (by first | rfl | omega)), ?_, ?_, ?_⟩
     ·((try dsimp only); omega)
     ·omega
     ·omega
     ·exact ei_next h0 (by omega) hm (by rw [zip_get hpl h0 ‹k < _›]; exact ‹okR _ _ _ _›)
    ·refine CW.exit (id := 0) rfl ?_
     refine CW.seq ?_
     refine SR ?_
     refine V (run_move e9_72) ?_
     refine V (run_nilCheck rfl) ?_
     refine V (fA underlying58 0 rfl sizeOf4 rfl) ?_
     refine V (run_ld underlying4 rfl rfl (hH72.cell (i := 0) rfl (v := B _) rfl)) ?_
     refine RL.nil ?_
     refine CW.cond rfl (fun h95 => ?_) (fun h95 => ?_)
     ·refine CW.seq ?_
      refine CW.regionS (by kernel_rfl) hH72 (sP (sP (sQ (sQ sR)))) ?_
      intro w96 hH97
      refine AT 0 rfl (hH97.sub (sP (sP (sQ (sQ sR))))) (fun w hS => run_bld (vs := []) rfl (built_el0)) ?_
      refine AT 1 rfl (hH97.sub (sP (sP (sQ (sQ sR))))) (fun w hS => run_move e9_72) ?_
      refine AT 2 rfl (hH97.sub (sP (sP (sQ (sQ sR))))) (fun w hS => run_nilCheck rfl) ?_
      refine AT 3 rfl (hH97.sub (sP (sP (sQ (sQ sR))))) (fun w hS => fA underlying58 1 rfl sizeOf3 rfl) ?_
      refine AT 4 rfl (hH97.sub (sP (sP (sQ (sQ sR))))) (fun w hS => run_ld underlying3 rfl rfl (hS.cell (i := 0) rfl (v := I _) rfl)) ?_
      refine AT 5 rfl (hH97.sub (sP (sP (sQ (sQ sR))))) (fun w hS => run_bld (vs := [(0, I 4), (1, I _)]) rfl (built_fltL _ _)) ?_
      refine A1 6 ?_
      refine AO.set rfl gnone hH97 (j := 3) rfl (sP (sP (sQ (sQ sR)))) (run_stEl rfl e4_72 rfl (hH97.blk (i := 3) rfl)) ?_
      intro w100 hH101
      simp only [z0, z1] at hH101
      refine A1 7 ?_
      refine AO.set rfl gnone hH101 (j := 2) rfl (sP (sP (sQ (sQ sR)))) (run_stW (c' := (fltL _).toArray) rfl e5_72 rfl (by simp [fltL, Value.oneCell']) (hH101.blk (i := 2) rfl) rfl) ?_
      intro w104 hH105
      simp only [z0, z1] at hH105
      refine AD ?_
      refine CW.ret ?_
      refine outCC Tryz.results9 e4_72 e5_72 hH105 (i := 3) (j := 2) rfl rfl underlying34 rfl (by rw [elC_size]; rfl) underlying36 rfl rfl ⟨?_, hH105.below⟩
      first | exact res_er (el_no1 (nt ‹(!partB s n) = true›)) | exact res_er (el_no2 (nt ‹(!shR s.sh) = true›)) | exact res_er (el_no3 (nt ‹(!constB n.nd) = true›)) | exact res_er ((el_yes hP hR (nf ‹(!constB n.nd) = false›)).trans (ei_er hm ‹s1.1 = true›)) | exact res_ok ((el_yes hP hR (nf ‹(!constB n.nd) = false›)).trans (ei_ok (by omega) hm (by simp [*])))
     ·refine CW.skip ?_
      refine SR ?_
      refine V (run_ldEl underlying34 rfl rfl e6_72 (hH72.blk (i := 1) rfl)) ?_
      refine V (run_bld (vs := []) rfl (built_fltL0)) ?_
      refine RL.set hH72 (i := 3) rfl (run_stEl rfl e4_72 rfl (hH72.blk (i := 3) rfl)) ?_
      intro w106 hH107
      simp only [z0, z1] at hH107
      refine RL.set hH107 (i := 2) rfl (run_stW (c' := (fltL _).toArray) rfl e5_72 rfl (by simp [fltL, Value.oneCell']) (hH107.blk (i := 2) rfl) rfl) ?_
      intro w108 hH109
      simp only [z0, z1] at hH109
      refine RL.nil ?_
      refine CW.ret ?_
      refine outCC Tryz.results9 e4_72 e5_72 hH109 (i := 3) (j := 2) rfl rfl underlying34 rfl (by rw [elC_size]; rfl) underlying36 rfl rfl ⟨?_, hH109.below⟩
      first | exact res_er (el_no1 (nt ‹(!partB s n) = true›)) | exact res_er (el_no2 (nt ‹(!shR s.sh) = true›)) | exact res_er (el_no3 (nt ‹(!constB n.nd) = true›)) | exact res_er ((el_yes hP hR (nf ‹(!constB n.nd) = false›)).trans (ei_er hm ‹s1.1 = true›)) | exact res_ok ((el_yes hP hR (nf ‹(!constB n.nd) = false›)).trans (ei_ok (by omega) hm (by simp [*])))

theorem s_many (n : NodeR) (w : World) (hn : NodeV (Kw w) n) (ih : ∀ x ∈ n.kids, ∀ w, NodeV (Kw w) x → Calls Tryz.prog 19 #[.agg (nodeL x).toArray] w (Ret fun u w' => (∃ k : Int, u = I k) ∧ Below w.heap.size w w')) : Calls Tryz.prog 19 #[.agg (nodeL n).toArray] w (Ret fun u w' => (∃ k : Int, u = I k) ∧ Below w.heap.size w w') := by
 have hm1 := hn.kids_.small
 unfold maxLen at hm1
 refine enter Tryz.func19 rfl Tryz.ntmps19 rfl ?_
 have hH := Hp.start w
 refine SR ?_
 refine RL.new rfl hH (f := fun b => (.pointer (some ⟨b, 0, none⟩))) (run_box (v := .agg _) rfl) ?_
 intro b3 w1 hH2
 refine V (aV (I 0) rfl) ?_
 refine RL.nil ?_
 refine SR ?_
 refine V (fA underlying28 3 rfl sizeOf25 rfl) ?_
 refine V (run_ldV (hn.names_.sl.hp hH2) underlying25 rfl rfl (hH2.cell (i := 0) rfl rfl)) ?_
 refine V (run_lenSl (hn.names_.sl.hp hH2) rfl underlying25 rfl) ?_
 refine V (run_addW rfl rfl) ?_
 refine V (aV (I _) rfl) ?_
 refine RL.nil ?_
 refine CW.seq ?_
 refine SR ?_
 refine V (aV (I 0) rfl) ?_
 refine RL.nil ?_
 refine CW.block ?_
 refine CW.loop (G := (Int) × (Int)) (fun (⟨k, m⟩ : (Int) × (Int)) s' w' => (Fr [3, 4, 9, 10, 11, 12, 13, 14, 15, 16, 17, 18, 19, 20, 21, 22, 23] _ s') ∧ (Hp w w' _) ∧ (s' 3 = I m) ∧ (s' 4 = I k) ∧ (0 ≤ k) ∧ (k ≤ n.kids.length)) (fun (⟨k, m⟩ : (Int) × (Int)) => (n.kids.length - k).toNat) ((0, _)) ⟨Fr.refl _ _, hH2, rfl, rfl, (by omega), (by omega)⟩ ?_
 rintro ⟨k, m⟩ sg4 w4 ⟨fr4, hH4, e3_4, e4_4, h0, hk⟩
 have e1_4 : sg4 1 = Pn _ _ := (fr4 1 rfl).trans rfl
 have e2_4 : sg4 2 = I _ := (fr4 2 rfl).trans rfl
 refine CW.seq ?_
 refine SR ?_
 refine V (run_move e4_4) ?_
 refine V (fA underlying28 4 rfl sizeOf26 e1_4) ?_
 refine V (run_ldV (hn.kids_.sl.hp hH4) underlying26 rfl rfl (hH4.cell (i := 0) rfl rfl)) ?_
 refine V (run_lenSl (hn.kids_.sl.hp hH4) rfl underlying26 rfl) ?_
 refine V (run_lss rfl rfl) ?_
 refine RL.nil ?_
 refine CW.condP rfl (fun h6 => ?_) (fun h6 => ?_)
 ·refine CW.skip ?_
  refine CW.seq ?_
  refine CW.block ?_
  refine CW.region ?_
  refine V (run_move e3_4) ?_
  refine V (fA underlying28 4 rfl sizeOf26 e1_4) ?_
  refine V (run_ldV (hn.kids_.sl.hp hH4) underlying26 rfl rfl (hH4.cell (i := 0) rfl rfl)) ?_
  refine V (run_move e4_4) ?_
  refine V (run_indexAddrS (hn.kids_.sl.hp hH4) underlying26 sizeOf28 rfl rfl (by omega)) ?_
  refine V (run_ldE (dv := node0) nodeL_len (hn.kids_.sl.hp hH4) underlying28 rfl rfl rfl (by omega)) ?_
  refine RL.callT rfl (ih _ (List.mem_of_getElem? (getD_at (d := node0) h0 ‹k < _›)) _ ((hn.mono hH4.kw).at h0 ‹_›)) (run_call1 call19 rfl) ?_
  rintro _ w9 ⟨⟨k12, rfl⟩, hb10⟩
  have hH11 := hH4.call hb10
  refine V (run_addW rfl rfl) ?_
  refine V (aV (I _) rfl) ?_
  refine RL.nil ?_
  refine CW.region ?_
  refine V (run_move e4_4) ?_
  refine V (run_add rfl rfl (by omega)) ?_
  refine V (aV (I _) rfl) ?_
  refine RL.nil ?_
  refine ⟨(k + 1, _), ?_, fr4.u4.u4.u4.u4.u1, hH11, (congrArg I (by first | rfl | omega)), (congrArg I (by first | rfl | omega)), ?_, ?_⟩
  ·((try dsimp only); omega)
  ·omega
  ·omega
 ·refine CW.exit (id := 0) rfl ?_
  refine SR ?_
  refine V (run_move e3_4) ?_
  refine V (aV (I _) rfl) ?_
  refine RL.nil ?_
  refine CW.ret ?_
  exact out1 Tryz.results19 rfl ⟨⟨_, rfl⟩, hH4.below⟩
theorem c_clearanceref10_Many (n : NodeR) : ∀ (w : World) (hn : NodeV (Kw w) n), Calls Tryz.prog 19 #[.agg (nodeL n).toArray] w (Ret fun u w' => (∃ k : Int, u = I k) ∧ Below w.heap.size w w') := node_ind (C := fun n => ∀ (w : World) (hn : NodeV (Kw w) n), Calls Tryz.prog 19 #[.agg (nodeL n).toArray] w (Ret fun u w' => (∃ k : Int, u = I k) ∧ Below w.heap.size w w')) (fun n ih w hn => s_many n w hn ih) n

theorem c_clearancelaw10_Big (v : Value) (l : List NodeR) (w : World) (hs : Sl w v 5 l.length (l.flatMap nodeL)) (hv : NodesV (Kw w) l) : Calls Tryz.prog 7 #[v] w (Ret fun u w' => (∃ b : Bool, u = B b) ∧ Below w.heap.size w w') := by
 have hm := hs.small
 unfold maxLen at hm
 refine enter Tryz.func7 rfl Tryz.ntmps7 rfl ?_
 have hH := Hp.start w
 refine SR ?_
 refine V (aV (B false) rfl) ?_
 refine RL.nil ?_
 refine CW.seq ?_
 refine SR ?_
 refine V (run_move (by conv => lhs; whnf)) ?_
 refine V (run_lenSl (hs.hp hH) rfl underlying26 rfl) ?_
 refine V (mV (I 0) rfl) ?_
 refine RL.nil ?_
 refine CW.block ?_
 refine CW.loop (G := (Int)) (fun (k : Int) s' w' => (Fr [2, 4, 7, 8, 9, 10, 11, 12, 13, 14] _ s') ∧ (Hp w w' _) ∧ (s' 7 = I k) ∧ (0 ≤ k) ∧ (k ≤ l.length)) (fun (k : Int) => (l.length - k).toNat) (0) ⟨Fr.refl _ _, hH, rfl, (by omega), (by omega)⟩ ?_
 rintro k sg1 w1 ⟨fr1, hH1, e7_1, h0, hk⟩
 have e5_1 := (fr1 5 rfl).trans (by conv => lhs; whnf)
 have e6_1 : sg1 6 = I _ := (fr1 6 rfl).trans rfl
 refine SR ?_
 refine V (run_lss e7_1 e6_1) ?_
 refine RL.nil ?_
 refine CW.seq ?_
 refine CW.condP rfl (fun h3 => ?_) (fun h3 => ?_)
 ·refine CW.skip ?_
  refine CW.seq ?_
  refine CW.block ?_
  refine SR ?_
  refine V (run_indexAddrS (hs.hp hH1) underlying26 sizeOf28 e5_1 e7_1 (by omega)) ?_
  refine V (run_ldE (dv := node0) nodeL_len (hs.hp hH1) underlying28 rfl rfl rfl (by omega)) ?_
  refine RL.new rfl hH1 (f := fun b => (.pointer (some ⟨b, 0, none⟩))) (run_alloc Tryz.zeroValue28) ?_
  intro b6 w4 hH5
  refine RL.set hH5 (i := 0) rfl (run_stW (c' := (nodeL _).toArray) rfl rfl rfl (nodeL_one (hv.at (by omega) (by omega))) (hH5.blk (i := 0) rfl) rfl) ?_
  intro w7 hH8
  simp only [z0, z1] at hH8
  refine RL.nil ?_
  refine SR ?_
  refine V (run_ldA (cs := nodeL _) underlying28 rfl rfl rfl (rangeAt_cells (hH8.blk (i := 0) rfl))) ?_
  refine RL.callT rfl (c_clearanceref10_Many _ _ ((hv.mono hH8.kw).at h0 ‹_›)) (run_call1 call19 rfl) ?_
  rintro _ w11 ⟨⟨k14, rfl⟩, hb12⟩
  have hH13 := hH8.call hb12
  refine V (run_gtr rfl rfl) ?_
  refine RL.nil ?_
  refine CW.condP rfl (fun h16 => ?_) (fun h16 => ?_)
  ·refine SR ?_
   refine V (aV (B true) rfl) ?_
   refine RL.nil ?_
   refine CW.ret ?_
   exact out1 Tryz.results7 rfl ⟨⟨_, rfl⟩, hH13.below⟩
  ·refine CW.skip ?_
   refine CW.region ?_
   refine V (run_add e7_1 rfl (by omega)) ?_
   refine V (mV (I _) rfl) ?_
   refine RL.nil ?_
   refine ⟨k + 1, ?_, fr1.u4.u4.u1, (hH13.sub (sQ sR)), (congrArg I (by first | rfl | omega)), ?_, ?_⟩
   ·((try dsimp only); omega)
   ·omega
   ·omega
 ·refine CW.exit (id := 0) rfl ?_
  refine SR ?_
  refine V (aV (B false) rfl) ?_
  refine RL.nil ?_
  refine CW.ret ?_
  exact out1 Tryz.results7 rfl ⟨⟨_, rfl⟩, hH1.below⟩

theorem s_all (q : Int) (v : Value) (l : List NodeR) (hq : q = 1 ∨ q = 2) (w : World) (hs : Sl w v 5 l.length (l.flatMap nodeL)) (hv : NodesV (Kw w) l) (ihC : ∀ x ∈ l, ∀ w, NodeV (Kw w) x → Calls Tryz.prog 17 #[.agg (nodeL x).toArray] w (Pure (B (constB x.nd)) w)) : Calls Tryz.prog 34 #[I q, v] w (Pure (B (l.all (allP q))) w) := by
 have hm := hs.small
 unfold maxLen at hm
 refine enter Tryz.func34 rfl Tryz.ntmps34 rfl ?_
 have hH := Hp.start w
 refine SR ?_
 refine V (aV (B false) rfl) ?_
 refine RL.nil ?_
 refine CW.seq ?_
 refine SR ?_
 refine V (aV (I 0) rfl) ?_
 refine RL.nil ?_
 refine CW.block ?_
 refine CW.loop (G := (Int)) (fun (k : Int) s' w' => (Fr [4, 5, 6, 7, 8, 9, 10, 11, 12, 13, 14, 15, 16, 17, 18, 19, 20, 21, 22, 23, 24, 25, 26, 27, 28, 29, 30, 31, 32, 33, 34, 35, 36, 37, 38, 39, 40, 41, 42, 43, 44, 45, 46, 47, 48, 49, 50, 51, 52, 53, 54, 55, 56, 57, 58, 59, 60, 61, 62, 63, 64, 65, 66, 67, 68, 69, 70, 71, 72, 73, 74, 75, 76, 77, 78, 79, 80, 81, 82, 83, 84, 85, 86, 87, 88, 89, 90, 91, 92, 93, 94, 95, 96, 97, 98, 99] _ s') ∧ (Hp w w' _) ∧ (s' 5 = I k) ∧ (0 ≤ k) ∧ (k ≤ l.length) ∧ (∀ j : Int, 0 ≤ j → j < k → allP q (l.getD j.toNat node0) = true)) (fun (k : Int) => (l.length - k).toNat) (0) ⟨Fr.refl _ _, hH, rfl, (by omega), (by omega), fun j a b => absurd b (by omega)⟩ ?_
 rintro k sg1 w1 ⟨fr1, hH1, e5_1, h0, hk, hg⟩
 have e0_1 : sg1 0 = I _ := (fr1 0 rfl).trans rfl
 have e1_1 := (fr1 1 rfl).trans (by conv => lhs; whnf)
 refine CW.seq ?_
 refine SR ?_
 refine V (run_move e5_1) ?_
 refine V (run_move e1_1) ?_
 refine V (run_lenSl (hs.hp hH1) rfl underlying26 rfl) ?_
 refine V (run_lss rfl rfl) ?_
 refine RL.nil ?_
 refine CW.condP rfl (fun h3 => ?_) (fun h3 => ?_)
 ·refine CW.skip ?_
  refine CW.seq ?_
  refine CW.block ?_
  refine SR ?_
  refine V (run_move e1_1) ?_
  refine V (run_move e5_1) ?_
  refine V (run_indexAddrS (hs.hp hH1) underlying26 sizeOf28 rfl rfl (by first | omega | (simp only [Int.natCast_eq_zero] at *; omega))) ?_
  refine V (run_ldE (dv := node0) nodeL_len (hs.hp hH1) underlying28 rfl rfl rfl (by first | omega | (simp only [Int.natCast_eq_zero] at *; omega))) ?_
  refine RL.new rfl hH1 (f := fun b => (.pointer (some ⟨b, 0, none⟩))) (run_alloc Tryz.zeroValue28) ?_
  intro b6 w4 hH5
  refine RL.set hH5 (i := 0) rfl (run_stW (c' := (nodeL _).toArray) rfl rfl rfl (nodeL_one (hv.at (by first | omega | (simp only [Int.natCast_eq_zero] at *; omega)) (by first | omega | (simp only [Int.natCast_eq_zero] at *; omega)))) (hH5.blk (i := 0) rfl) rfl) ?_
  intro w7 hH8
  simp only [z0, z1] at hH8
  refine RL.nil ?_
  refine SR ?_
  refine V (run_move e0_1) ?_
  refine V (run_eql rfl rfl) ?_
  refine V (mV (B _) rfl) ?_
  refine RL.splitP (dj := 20) rfl (fun h10 => ?_) (fun h10 => ?_)
  ·refine RL.gT rfl (bT h10) ?_
   refine V (run_ldA (cs := nodeL _) underlying28 rfl rfl rfl (rangeAt_cells (hH8.blk (i := 0) rfl))) ?_
   refine RL.gT rfl (bT h10) ?_
   refine RL.callP rfl hH8 (ihC _ (List.mem_of_getElem? (getD_at (d := node0) h0 ‹k < _›)) _ (NodeV.mono hH8.kw (hv.at h0 ‹_›))) (run_call1 call17 rfl) ?_
   intro w11 hH12
   refine V (run_pickT (bT h10) (v := B _) rfl) ?_
   refine V (mV (B _) rfl) ?_
   refine RL.split (dj := 24) rfl (fun h14 => ?_) (fun h14 => ?_)
   ·refine RL.gF rfl rfl (bR (c := true) h14) rfl ?_
    refine RL.gF rfl rfl (bR (c := true) h14) rfl ?_
    refine RL.gF rfl rfl (bR (c := true) h14) rfl ?_
    refine RL.gU rfl rfl rfl ?_
    refine RL.gU rfl rfl rfl ?_
    refine RL.gF rfl rfl (bR (c := true) h14) rfl ?_
    refine V (run_pickT (bR (c := true) h14) (v := B true) rfl) ?_
    refine V (aV (B _) rfl) ?_
    refine RL.nil ?_
    refine CW.seq ?_
    refine SR ?_
    refine V (run_move e0_1) ?_
    refine V (run_eql rfl rfl) ?_
    refine RL.nil ?_
    refine CW.condP rfl (fun h16 => ?_) (fun h16 => ?_)
    ·refine CW.region ?_
     refine V (fA underlying28 0 rfl sizeOf3 rfl) ?_
     refine V (run_ld underlying3 rfl rfl (hH12.cell (i := 0) rfl (v := I _) rfl)) ?_
     refine V (run_eql rfl rfl) ?_
     refine V (mV (B _) rfl) ?_
     refine RL.splitP (dj := 37) rfl (fun h18 => ?_) (fun h18 => ?_)
     ·refine RL.gT rfl (bT h18) ?_
      refine V (fA underlying28 2 rfl sizeOf9 rfl) ?_
      refine RL.gT rfl (bT h18) ?_
      refine V (run_ld underlying9 rfl rfl (hH12.cell (i := 0) rfl (v := .string _) rfl)) ?_
      refine RL.gT rfl (bT h18) ?_
      refine RL.callP rfl hH12 (c_clearanceref02_Right _  _) (run_call1 call32 rfl) ?_
      intro w19 hH20
      refine V (run_pickT (bT h18) (v := B _) rfl) ?_
      refine V (mV (B _) rfl) ?_
      refine RL.split (dj := 42) rfl (fun h22 => ?_) (fun h22 => ?_)
      ·refine RL.gT rfl (bR (c := true) h22) ?_
       refine V (fA underlying28 3 rfl sizeOf25 rfl) ?_
       refine RL.gT rfl (bR (c := true) h22) ?_
       refine V (run_ldV ((hv.at (by first | omega | (simp only [Int.natCast_eq_zero] at *; omega)) (by first | omega | (simp only [Int.natCast_eq_zero] at *; omega))).names_.sl.hp hH20) underlying25 rfl rfl (hH20.cell (i := 0) rfl rfl)) ?_
       refine RL.gT rfl (bR (c := true) h22) ?_
       refine RL.callP rfl hH20 (c_clearanceref10_right _ _  _ ((hv.at (by first | omega | (simp only [Int.natCast_eq_zero] at *; omega)) (by first | omega | (simp only [Int.natCast_eq_zero] at *; omega))).names_.sl.hp hH20)) (run_call1 call33 rfl) ?_
       intro w23 hH24
       refine V (run_pickT (bR (c := true) h22) (v := B _) rfl) ?_
       refine V (mV (B _) rfl) ?_
       refine RL.split (dj := 47) rfl (fun h26 => ?_) (fun h26 => ?_)
       ·refine RL.gT rfl (bR (c := true) h26) ?_
        refine V (fA underlying28 4 rfl sizeOf26 rfl) ?_
        refine RL.gT rfl (bR (c := true) h26) ?_
        refine V (run_ldV ((hv.at (by first | omega | (simp only [Int.natCast_eq_zero] at *; omega)) (by first | omega | (simp only [Int.natCast_eq_zero] at *; omega))).kids_.sl.hp hH24) underlying26 rfl rfl (hH24.cell (i := 0) rfl rfl)) ?_
        refine RL.gT rfl (bR (c := true) h26) ?_
        refine V (run_lenSl ((hv.at (by first | omega | (simp only [Int.natCast_eq_zero] at *; omega)) (by first | omega | (simp only [Int.natCast_eq_zero] at *; omega))).kids_.sl.hp hH24) rfl underlying26 rfl) ?_
        refine RL.gT rfl (bR (c := true) h26) ?_
        refine V (run_eql rfl rfl) ?_
        refine V (run_pickT (bR (c := true) h26) (v := B _) rfl) ?_
        refine V (aV (B _) rfl) ?_
        refine RL.nil ?_
        refine CW.seq ?_
        refine SR ?_
        refine V (run_move e0_1) ?_
        refine V (run_eql rfl rfl) ?_
        refine RL.nil ?_
        refine CW.condF (bF ((by omega))) ?_
        refine CW.skip ?_
        refine SR ?_
        refine V (mV (B _) rfl) ?_
        refine V (run_notP rfl) ?_
        refine RL.nil ?_
        refine CW.condP rfl (fun h30 => ?_) (fun h30 => ?_)
        ·refine SR ?_
         refine V (aV (B false) rfl) ?_
         refine RL.nil ?_
         refine CW.ret ?_
         refine outP1 Tryz.results34 (congrArg B ?_) hH24.below
         first | (exfalso; omega) | exact (all_no (P := allP q) h0 ‹k < _› (by rw [allP_c ‹q = 1›]; first | assumption | exact (Bool.not_eq_true _).1 ‹_›)).symm | exact (all_no (P := allP q) h0 ‹k < _› (by rw [allP_r ‹q = 2›]; first | exact rule_n1 ‹_› | exact rule_n2 ‹_› | exact rule_n3 ‹_› | exact rule_n4 ‹_›)).symm | exact (all_yes (P := allP q) ‹¬ k < _› hg).symm
        ·refine CW.skip ?_
         refine CW.region ?_
         refine V (run_move e5_1) ?_
         refine V (run_add rfl rfl (by omega)) ?_
         refine V (aV (I _) rfl) ?_
         refine RL.nil ?_
         refine ⟨k + 1, ?_, fr1.u4.u4.u4.u4.u4.u4.u4.u4.u4.u4.u4.u4.u4.u1, (hH24.sub (sQ sR)), (congrArg I (by first | rfl | omega)), ?_, ?_, ?_⟩
         ·((try dsimp only); omega)
         ·omega
         ·omega
         ·first | (exfalso; omega) | exact fun j a b => if e : j = k then e ▸ (by first | (rw [allP_c ‹q = 1›]; assumption) | (rw [allP_r ‹q = 2›]; exact rule_y ‹_› ‹_› ‹_› (Decidable.of_not_not ‹¬ ¬ ((l.getD k.toNat node0).kids.length : Int) = 0›))) else hg j a (by omega)
       ·refine RL.gF rfl rfl (bR (c := false) h26) rfl ?_
        refine RL.gF rfl rfl (bR (c := false) h26) rfl ?_
        refine RL.gF rfl rfl (bR (c := false) h26) rfl ?_
        refine RL.gF rfl rfl (bR (c := false) h26) rfl ?_
        refine V (run_pickF (bR (c := false) h26) (v := B false) rfl) ?_
        refine V (aV (B _) rfl) ?_
        refine RL.nil ?_
        refine CW.seq ?_
        refine SR ?_
        refine V (run_move e0_1) ?_
        refine V (run_eql rfl rfl) ?_
        refine RL.nil ?_
        refine CW.condF (bF ((by omega))) ?_
        refine CW.skip ?_
        refine SR ?_
        refine V (mV (B _) rfl) ?_
        refine V (run_not rfl) ?_
        refine RL.nil ?_
        refine CW.condT rfl ?_
        refine SR ?_
        refine V (aV (B false) rfl) ?_
        refine RL.nil ?_
        refine CW.ret ?_
        refine outP1 Tryz.results34 (congrArg B ?_) hH24.below
        first | (exfalso; omega) | exact (all_no (P := allP q) h0 ‹k < _› (by rw [allP_c ‹q = 1›]; first | assumption | exact (Bool.not_eq_true _).1 ‹_›)).symm | exact (all_no (P := allP q) h0 ‹k < _› (by rw [allP_r ‹q = 2›]; first | exact rule_n1 ‹_› | exact rule_n2 ‹_› | exact rule_n3 ‹_› | exact rule_n4 ‹_›)).symm | exact (all_yes (P := allP q) ‹¬ k < _› hg).symm
      ·refine RL.gF rfl rfl (bR (c := false) h22) rfl ?_
       refine RL.gF rfl rfl (bR (c := false) h22) rfl ?_
       refine RL.gF rfl rfl (bR (c := false) h22) rfl ?_
       refine V (run_pickF (bR (c := false) h22) (v := B false) rfl) ?_
       refine V (mV (B _) rfl) ?_
       refine RL.gF rfl rfl rfl rfl ?_
       refine RL.gF rfl rfl rfl rfl ?_
       refine RL.gF rfl rfl rfl rfl ?_
       refine RL.gF rfl rfl rfl rfl ?_
       refine V (run_pickF rfl (v := B false) rfl) ?_
       refine V (aV (B _) rfl) ?_
       refine RL.nil ?_
       refine CW.seq ?_
       refine SR ?_
       refine V (run_move e0_1) ?_
       refine V (run_eql rfl rfl) ?_
       refine RL.nil ?_
       refine CW.condF (bF ((by omega))) ?_
       refine CW.skip ?_
       refine SR ?_
       refine V (mV (B _) rfl) ?_
       refine V (run_not rfl) ?_
       refine RL.nil ?_
       refine CW.condT rfl ?_
       refine SR ?_
       refine V (aV (B false) rfl) ?_
       refine RL.nil ?_
       refine CW.ret ?_
       refine outP1 Tryz.results34 (congrArg B ?_) hH20.below
       first | (exfalso; omega) | exact (all_no (P := allP q) h0 ‹k < _› (by rw [allP_c ‹q = 1›]; first | assumption | exact (Bool.not_eq_true _).1 ‹_›)).symm | exact (all_no (P := allP q) h0 ‹k < _› (by rw [allP_r ‹q = 2›]; first | exact rule_n1 ‹_› | exact rule_n2 ‹_› | exact rule_n3 ‹_› | exact rule_n4 ‹_›)).symm | exact (all_yes (P := allP q) ‹¬ k < _› hg).symm
     ·refine RL.gF rfl rfl (bF h18) rfl ?_
      refine RL.gF rfl rfl (bF h18) rfl ?_
      refine RL.gF rfl rfl (bF h18) rfl ?_
      refine V (run_pickF (bF h18) (v := B false) rfl) ?_
      refine V (mV (B _) rfl) ?_
      refine RL.gF rfl rfl rfl rfl ?_
      refine RL.gF rfl rfl rfl rfl ?_
      refine RL.gF rfl rfl rfl rfl ?_
      refine V (run_pickF rfl (v := B false) rfl) ?_
      refine V (mV (B _) rfl) ?_
      refine RL.gF rfl rfl rfl rfl ?_
      refine RL.gF rfl rfl rfl rfl ?_
      refine RL.gF rfl rfl rfl rfl ?_
      refine RL.gF rfl rfl rfl rfl ?_
      refine V (run_pickF rfl (v := B false) rfl) ?_
      refine V (aV (B _) rfl) ?_
      refine RL.nil ?_
      refine CW.seq ?_
      refine SR ?_
      refine V (run_move e0_1) ?_
      refine V (run_eql rfl rfl) ?_
      refine RL.nil ?_
      refine CW.condF (bF ((by omega))) ?_
      refine CW.skip ?_
      refine SR ?_
      refine V (mV (B _) rfl) ?_
      refine V (run_not rfl) ?_
      refine RL.nil ?_
      refine CW.condT rfl ?_
      refine SR ?_
      refine V (aV (B false) rfl) ?_
      refine RL.nil ?_
      refine CW.ret ?_
      refine outP1 Tryz.results34 (congrArg B ?_) hH12.below
      first | (exfalso; omega) | exact (all_no (P := allP q) h0 ‹k < _› (by rw [allP_c ‹q = 1›]; first | assumption | exact (Bool.not_eq_true _).1 ‹_›)).symm | exact (all_no (P := allP q) h0 ‹k < _› (by rw [allP_r ‹q = 2›]; first | exact rule_n1 ‹_› | exact rule_n2 ‹_› | exact rule_n3 ‹_› | exact rule_n4 ‹_›)).symm | exact (all_yes (P := allP q) ‹¬ k < _› hg).symm
    ·refine CW.skip ?_
     refine CW.seq ?_
     refine SR ?_
     refine V (run_move e0_1) ?_
     refine V (run_eql rfl rfl) ?_
     refine RL.nil ?_
     refine CW.condF (bF ((by omega))) ?_
     refine CW.skip ?_
     refine SR ?_
     refine V (mV (B _) rfl) ?_
     refine V (run_not rfl) ?_
     refine RL.nil ?_
     refine CW.condF rfl ?_
     refine CW.skip ?_
     refine CW.region ?_
     refine V (run_move e5_1) ?_
     refine V (run_add rfl rfl (by omega)) ?_
     refine V (aV (I _) rfl) ?_
     refine RL.nil ?_
     refine ⟨k + 1, ?_, fr1.u4.u4.u4.u4.u4.u4.u4.u4.u1, (hH12.sub (sQ sR)), (congrArg I (by first | rfl | omega)), ?_, ?_, ?_⟩
     ·((try dsimp only); omega)
     ·omega
     ·omega
     ·first | (exfalso; omega) | exact fun j a b => if e : j = k then e ▸ (by first | (rw [allP_c ‹q = 1›]; assumption) | (rw [allP_r ‹q = 2›]; exact rule_y ‹_› ‹_› ‹_› (Decidable.of_not_not ‹¬ ¬ ((l.getD k.toNat node0).kids.length : Int) = 0›))) else hg j a (by omega)
   ·refine RL.gT rfl (bR (c := false) h14) ?_
    refine V (run_move e0_1) ?_
    refine RL.gT rfl (bR (c := false) h14) ?_
    refine V (run_eql rfl rfl) ?_
    refine RL.gT rfl (bR (c := false) h14) ?_
    refine V (mV (B _) rfl) ?_
    refine RL.gF rfl rfl (bF ((by omega))) rfl ?_
    refine RL.gF rfl rfl (bF ((by omega))) rfl ?_
    refine RL.gT rfl (bR (c := false) h14) ?_
    refine V (run_pickF (bF ((by omega))) (v := B false) rfl) ?_
    refine V (run_pickF (bR (c := false) h14) (v := B _) rfl) ?_
    refine V (aV (B _) rfl) ?_
    refine RL.nil ?_
    refine CW.seq ?_
    refine SR ?_
    refine V (run_move e0_1) ?_
    refine V (run_eql rfl rfl) ?_
    refine RL.nil ?_
    refine CW.condP rfl (fun h37 => ?_) (fun h37 => ?_)
    ·refine CW.region ?_
     refine V (fA underlying28 0 rfl sizeOf3 rfl) ?_
     refine V (run_ld underlying3 rfl rfl (hH12.cell (i := 0) rfl (v := I _) rfl)) ?_
     refine V (run_eql rfl rfl) ?_
     refine V (mV (B _) rfl) ?_
     refine RL.splitP (dj := 37) rfl (fun h39 => ?_) (fun h39 => ?_)
     ·refine RL.gT rfl (bT h39) ?_
      refine V (fA underlying28 2 rfl sizeOf9 rfl) ?_
      refine RL.gT rfl (bT h39) ?_
      refine V (run_ld underlying9 rfl rfl (hH12.cell (i := 0) rfl (v := .string _) rfl)) ?_
      refine RL.gT rfl (bT h39) ?_
      refine RL.callP rfl hH12 (c_clearanceref02_Right _  _) (run_call1 call32 rfl) ?_
      intro w40 hH41
      refine V (run_pickT (bT h39) (v := B _) rfl) ?_
      refine V (mV (B _) rfl) ?_
      refine RL.split (dj := 42) rfl (fun h43 => ?_) (fun h43 => ?_)
      ·refine RL.gT rfl (bR (c := true) h43) ?_
       refine V (fA underlying28 3 rfl sizeOf25 rfl) ?_
       refine RL.gT rfl (bR (c := true) h43) ?_
       refine V (run_ldV ((hv.at (by first | omega | (simp only [Int.natCast_eq_zero] at *; omega)) (by first | omega | (simp only [Int.natCast_eq_zero] at *; omega))).names_.sl.hp hH41) underlying25 rfl rfl (hH41.cell (i := 0) rfl rfl)) ?_
       refine RL.gT rfl (bR (c := true) h43) ?_
       refine RL.callP rfl hH41 (c_clearanceref10_right _ _  _ ((hv.at (by first | omega | (simp only [Int.natCast_eq_zero] at *; omega)) (by first | omega | (simp only [Int.natCast_eq_zero] at *; omega))).names_.sl.hp hH41)) (run_call1 call33 rfl) ?_
       intro w44 hH45
       refine V (run_pickT (bR (c := true) h43) (v := B _) rfl) ?_
       refine V (mV (B _) rfl) ?_
       refine RL.split (dj := 47) rfl (fun h47 => ?_) (fun h47 => ?_)
       ·refine RL.gT rfl (bR (c := true) h47) ?_
        refine V (fA underlying28 4 rfl sizeOf26 rfl) ?_
        refine RL.gT rfl (bR (c := true) h47) ?_
        refine V (run_ldV ((hv.at (by first | omega | (simp only [Int.natCast_eq_zero] at *; omega)) (by first | omega | (simp only [Int.natCast_eq_zero] at *; omega))).kids_.sl.hp hH45) underlying26 rfl rfl (hH45.cell (i := 0) rfl rfl)) ?_
        refine RL.gT rfl (bR (c := true) h47) ?_
        refine V (run_lenSl ((hv.at (by first | omega | (simp only [Int.natCast_eq_zero] at *; omega)) (by first | omega | (simp only [Int.natCast_eq_zero] at *; omega))).kids_.sl.hp hH45) rfl underlying26 rfl) ?_
        refine RL.gT rfl (bR (c := true) h47) ?_
        refine V (run_eql rfl rfl) ?_
        refine V (run_pickT (bR (c := true) h47) (v := B _) rfl) ?_
        refine V (aV (B _) rfl) ?_
        refine RL.nil ?_
        refine CW.seq ?_
        refine SR ?_
        refine V (run_move e0_1) ?_
        refine V (run_eql rfl rfl) ?_
        refine RL.nil ?_
        refine CW.condF (bF ((by omega))) ?_
        refine CW.skip ?_
        refine SR ?_
        refine V (mV (B _) rfl) ?_
        refine V (run_notP rfl) ?_
        refine RL.nil ?_
        refine CW.condP rfl (fun h51 => ?_) (fun h51 => ?_)
        ·refine SR ?_
         refine V (aV (B false) rfl) ?_
         refine RL.nil ?_
         refine CW.ret ?_
         refine outP1 Tryz.results34 (congrArg B ?_) hH45.below
         first | (exfalso; omega) | exact (all_no (P := allP q) h0 ‹k < _› (by rw [allP_c ‹q = 1›]; first | assumption | exact (Bool.not_eq_true _).1 ‹_›)).symm | exact (all_no (P := allP q) h0 ‹k < _› (by rw [allP_r ‹q = 2›]; first | exact rule_n1 ‹_› | exact rule_n2 ‹_› | exact rule_n3 ‹_› | exact rule_n4 ‹_›)).symm | exact (all_yes (P := allP q) ‹¬ k < _› hg).symm
        ·refine CW.skip ?_
         refine CW.region ?_
         refine V (run_move e5_1) ?_
         refine V (run_add rfl rfl (by omega)) ?_
         refine V (aV (I _) rfl) ?_
         refine RL.nil ?_
         refine ⟨k + 1, ?_, fr1.u4.u4.u4.u4.u4.u4.u4.u4.u4.u4.u4.u4.u4.u1, (hH45.sub (sQ sR)), (congrArg I (by first | rfl | omega)), ?_, ?_, ?_⟩
         ·((try dsimp only); omega)
         ·omega
         ·omega
         ·first | (exfalso; omega) | exact fun j a b => if e : j = k then e ▸ (by first | (rw [allP_c ‹q = 1›]; assumption) | (rw [allP_r ‹q = 2›]; exact rule_y ‹_› ‹_› ‹_› (Decidable.of_not_not ‹¬ ¬ ((l.getD k.toNat node0).kids.length : Int) = 0›))) else hg j a (by omega)
       ·refine RL.gF rfl rfl (bR (c := false) h47) rfl ?_
        refine RL.gF rfl rfl (bR (c := false) h47) rfl ?_
        refine RL.gF rfl rfl (bR (c := false) h47) rfl ?_
        refine RL.gF rfl rfl (bR (c := false) h47) rfl ?_
        refine V (run_pickF (bR (c := false) h47) (v := B false) rfl) ?_
        refine V (aV (B _) rfl) ?_
        refine RL.nil ?_
        refine CW.seq ?_
        refine SR ?_
        refine V (run_move e0_1) ?_
        refine V (run_eql rfl rfl) ?_
        refine RL.nil ?_
        refine CW.condF (bF ((by omega))) ?_
        refine CW.skip ?_
        refine SR ?_
        refine V (mV (B _) rfl) ?_
        refine V (run_not rfl) ?_
        refine RL.nil ?_
        refine CW.condT rfl ?_
        refine SR ?_
        refine V (aV (B false) rfl) ?_
        refine RL.nil ?_
        refine CW.ret ?_
        refine outP1 Tryz.results34 (congrArg B ?_) hH45.below
        first | (exfalso; omega) | exact (all_no (P := allP q) h0 ‹k < _› (by rw [allP_c ‹q = 1›]; first | assumption | exact (Bool.not_eq_true _).1 ‹_›)).symm | exact (all_no (P := allP q) h0 ‹k < _› (by rw [allP_r ‹q = 2›]; first | exact rule_n1 ‹_› | exact rule_n2 ‹_› | exact rule_n3 ‹_› | exact rule_n4 ‹_›)).symm | exact (all_yes (P := allP q) ‹¬ k < _› hg).symm
      ·refine RL.gF rfl rfl (bR (c := false) h43) rfl ?_
       refine RL.gF rfl rfl (bR (c := false) h43) rfl ?_
       refine RL.gF rfl rfl (bR (c := false) h43) rfl ?_
       refine V (run_pickF (bR (c := false) h43) (v := B false) rfl) ?_
       refine V (mV (B _) rfl) ?_
       refine RL.gF rfl rfl rfl rfl ?_
       refine RL.gF rfl rfl rfl rfl ?_
       refine RL.gF rfl rfl rfl rfl ?_
       refine RL.gF rfl rfl rfl rfl ?_
       refine V (run_pickF rfl (v := B false) rfl) ?_
       refine V (aV (B _) rfl) ?_
       refine RL.nil ?_
       refine CW.seq ?_
       refine SR ?_
       refine V (run_move e0_1) ?_
       refine V (run_eql rfl rfl) ?_
       refine RL.nil ?_
       refine CW.condF (bF ((by omega))) ?_
       refine CW.skip ?_
       refine SR ?_
       refine V (mV (B _) rfl) ?_
       refine V (run_not rfl) ?_
       refine RL.nil ?_
       refine CW.condT rfl ?_
       refine SR ?_
       refine V (aV (B false) rfl) ?_
       refine RL.nil ?_
       refine CW.ret ?_
       refine outP1 Tryz.results34 (congrArg B ?_) hH41.below
       first | (exfalso; omega) | exact (all_no (P := allP q) h0 ‹k < _› (by rw [allP_c ‹q = 1›]; first | assumption | exact (Bool.not_eq_true _).1 ‹_›)).symm | exact (all_no (P := allP q) h0 ‹k < _› (by rw [allP_r ‹q = 2›]; first | exact rule_n1 ‹_› | exact rule_n2 ‹_› | exact rule_n3 ‹_› | exact rule_n4 ‹_›)).symm | exact (all_yes (P := allP q) ‹¬ k < _› hg).symm
     ·refine RL.gF rfl rfl (bF h39) rfl ?_
      refine RL.gF rfl rfl (bF h39) rfl ?_
      refine RL.gF rfl rfl (bF h39) rfl ?_
      refine V (run_pickF (bF h39) (v := B false) rfl) ?_
      refine V (mV (B _) rfl) ?_
      refine RL.gF rfl rfl rfl rfl ?_
      refine RL.gF rfl rfl rfl rfl ?_
      refine RL.gF rfl rfl rfl rfl ?_
      refine V (run_pickF rfl (v := B false) rfl) ?_
      refine V (mV (B _) rfl) ?_
      refine RL.gF rfl rfl rfl rfl ?_
      refine RL.gF rfl rfl rfl rfl ?_
      refine RL.gF rfl rfl rfl rfl ?_
      refine RL.gF rfl rfl rfl rfl ?_
      refine V (run_pickF rfl (v := B false) rfl) ?_
      refine V (aV (B _) rfl) ?_
      refine RL.nil ?_
      refine CW.seq ?_
      refine SR ?_
      refine V (run_move e0_1) ?_
      refine V (run_eql rfl rfl) ?_
      refine RL.nil ?_
      refine CW.condF (bF ((by omega))) ?_
      refine CW.skip ?_
      refine SR ?_
      refine V (mV (B _) rfl) ?_
      refine V (run_not rfl) ?_
      refine RL.nil ?_
      refine CW.condT rfl ?_
      refine SR ?_
      refine V (aV (B false) rfl) ?_
      refine RL.nil ?_
      refine CW.ret ?_
      refine outP1 Tryz.results34 (congrArg B ?_) hH12.below
      first | (exfalso; omega) | exact (all_no (P := allP q) h0 ‹k < _› (by rw [allP_c ‹q = 1›]; first | assumption | exact (Bool.not_eq_true _).1 ‹_›)).symm | exact (all_no (P := allP q) h0 ‹k < _› (by rw [allP_r ‹q = 2›]; first | exact rule_n1 ‹_› | exact rule_n2 ‹_› | exact rule_n3 ‹_› | exact rule_n4 ‹_›)).symm | exact (all_yes (P := allP q) ‹¬ k < _› hg).symm
    ·refine CW.skip ?_
     refine CW.seq ?_
     refine SR ?_
     refine V (run_move e0_1) ?_
     refine V (run_eql rfl rfl) ?_
     refine RL.nil ?_
     refine CW.condF (bF ((by omega))) ?_
     refine CW.skip ?_
     refine SR ?_
     refine V (mV (B _) rfl) ?_
     refine V (run_not rfl) ?_
     refine RL.nil ?_
     refine CW.condT rfl ?_
     refine SR ?_
     refine V (aV (B false) rfl) ?_
     refine RL.nil ?_
     refine CW.ret ?_
     refine outP1 Tryz.results34 (congrArg B ?_) hH12.below
     first | (exfalso; omega) | exact (all_no (P := allP q) h0 ‹k < _› (by rw [allP_c ‹q = 1›]; first | assumption | exact (Bool.not_eq_true _).1 ‹_›)).symm | exact (all_no (P := allP q) h0 ‹k < _› (by rw [allP_r ‹q = 2›]; first | exact rule_n1 ‹_› | exact rule_n2 ‹_› | exact rule_n3 ‹_› | exact rule_n4 ‹_›)).symm | exact (all_yes (P := allP q) ‹¬ k < _› hg).symm
  ·refine RL.gF rfl rfl (bF h10) rfl ?_
   refine RL.gF rfl rfl (bF h10) rfl ?_
   refine V (run_pickF (bF h10) (v := B false) rfl) ?_
   refine V (mV (B _) rfl) ?_
   refine RL.gT rfl rfl ?_
   refine V (run_move e0_1) ?_
   refine RL.gT rfl rfl ?_
   refine V (run_eql rfl rfl) ?_
   refine RL.gT rfl rfl ?_
   refine V (mV (B _) rfl) ?_
   refine RL.gF rfl rfl (bF ((by omega))) rfl ?_
   refine RL.gF rfl rfl (bF ((by omega))) rfl ?_
   refine RL.gT rfl rfl ?_
   refine V (run_pickF (bF ((by omega))) (v := B false) rfl) ?_
   refine V (run_pickF rfl (v := B _) rfl) ?_
   refine V (aV (B _) rfl) ?_
   refine RL.nil ?_
   refine CW.seq ?_
   refine SR ?_
   refine V (run_move e0_1) ?_
   refine V (run_eql rfl rfl) ?_
   refine RL.nil ?_
   refine CW.condP rfl (fun h58 => ?_) (fun h58 => ?_)
   ·refine CW.region ?_
    refine V (fA underlying28 0 rfl sizeOf3 rfl) ?_
    refine V (run_ld underlying3 rfl rfl (hH8.cell (i := 0) rfl (v := I _) rfl)) ?_
    refine V (run_eql rfl rfl) ?_
    refine V (mV (B _) rfl) ?_
    refine RL.splitP (dj := 37) rfl (fun h60 => ?_) (fun h60 => ?_)
    ·refine RL.gT rfl (bT h60) ?_
     refine V (fA underlying28 2 rfl sizeOf9 rfl) ?_
     refine RL.gT rfl (bT h60) ?_
     refine V (run_ld underlying9 rfl rfl (hH8.cell (i := 0) rfl (v := .string _) rfl)) ?_
     refine RL.gT rfl (bT h60) ?_
     refine RL.callP rfl hH8 (c_clearanceref02_Right _  _) (run_call1 call32 rfl) ?_
     intro w61 hH62
     refine V (run_pickT (bT h60) (v := B _) rfl) ?_
     refine V (mV (B _) rfl) ?_
     refine RL.split (dj := 42) rfl (fun h64 => ?_) (fun h64 => ?_)
     ·refine RL.gT rfl (bR (c := true) h64) ?_
      refine V (fA underlying28 3 rfl sizeOf25 rfl) ?_
      refine RL.gT rfl (bR (c := true) h64) ?_
      refine V (run_ldV ((hv.at (by first | omega | (simp only [Int.natCast_eq_zero] at *; omega)) (by first | omega | (simp only [Int.natCast_eq_zero] at *; omega))).names_.sl.hp hH62) underlying25 rfl rfl (hH62.cell (i := 0) rfl rfl)) ?_
      refine RL.gT rfl (bR (c := true) h64) ?_
      refine RL.callP rfl hH62 (c_clearanceref10_right _ _  _ ((hv.at (by first | omega | (simp only [Int.natCast_eq_zero] at *; omega)) (by first | omega | (simp only [Int.natCast_eq_zero] at *; omega))).names_.sl.hp hH62)) (run_call1 call33 rfl) ?_
      intro w65 hH66
      refine V (run_pickT (bR (c := true) h64) (v := B _) rfl) ?_
      refine V (mV (B _) rfl) ?_
      refine RL.split (dj := 47) rfl (fun h68 => ?_) (fun h68 => ?_)
      ·refine RL.gT rfl (bR (c := true) h68) ?_
       refine V (fA underlying28 4 rfl sizeOf26 rfl) ?_
       refine RL.gT rfl (bR (c := true) h68) ?_
       refine V (run_ldV ((hv.at (by first | omega | (simp only [Int.natCast_eq_zero] at *; omega)) (by first | omega | (simp only [Int.natCast_eq_zero] at *; omega))).kids_.sl.hp hH66) underlying26 rfl rfl (hH66.cell (i := 0) rfl rfl)) ?_
       refine RL.gT rfl (bR (c := true) h68) ?_
       refine V (run_lenSl ((hv.at (by first | omega | (simp only [Int.natCast_eq_zero] at *; omega)) (by first | omega | (simp only [Int.natCast_eq_zero] at *; omega))).kids_.sl.hp hH66) rfl underlying26 rfl) ?_
       refine RL.gT rfl (bR (c := true) h68) ?_
       refine V (run_eql rfl rfl) ?_
       refine V (run_pickT (bR (c := true) h68) (v := B _) rfl) ?_
       refine V (aV (B _) rfl) ?_
       refine RL.nil ?_
       refine CW.seq ?_
       refine SR ?_
       refine V (run_move e0_1) ?_
       refine V (run_eql rfl rfl) ?_
       refine RL.nil ?_
       refine CW.condF (bF ((by omega))) ?_
       refine CW.skip ?_
       refine SR ?_
       refine V (mV (B _) rfl) ?_
       refine V (run_notP rfl) ?_
       refine RL.nil ?_
       refine CW.condP rfl (fun h72 => ?_) (fun h72 => ?_)
       ·refine SR ?_
        refine V (aV (B false) rfl) ?_
        refine RL.nil ?_
        refine CW.ret ?_
        refine outP1 Tryz.results34 (congrArg B ?_) hH66.below
        first | (exfalso; omega) | exact (all_no (P := allP q) h0 ‹k < _› (by rw [allP_c ‹q = 1›]; first | assumption | exact (Bool.not_eq_true _).1 ‹_›)).symm | exact (all_no (P := allP q) h0 ‹k < _› (by rw [allP_r ‹q = 2›]; first | exact rule_n1 ‹_› | exact rule_n2 ‹_› | exact rule_n3 ‹_› | exact rule_n4 ‹_›)).symm | exact (all_yes (P := allP q) ‹¬ k < _› hg).symm
       ·refine CW.skip ?_
        refine CW.region ?_
        refine V (run_move e5_1) ?_
        refine V (run_add rfl rfl (by omega)) ?_
        refine V (aV (I _) rfl) ?_
        refine RL.nil ?_
        refine ⟨k + 1, ?_, fr1.u4.u4.u4.u4.u4.u4.u4.u4.u4.u4.u4.u4.u4.u1, (hH66.sub (sQ sR)), (congrArg I (by first | rfl | omega)), ?_, ?_, ?_⟩
        ·((try dsimp only); omega)
        ·omega
        ·omega
        ·first | (exfalso; omega) | exact fun j a b => if e : j = k then e ▸ (by first | (rw [allP_c ‹q = 1›]; assumption) | (rw [allP_r ‹q = 2›]; exact rule_y ‹_› ‹_› ‹_› (Decidable.of_not_not ‹¬ ¬ ((l.getD k.toNat node0).kids.length : Int) = 0›))) else hg j a (by omega)
      ·refine RL.gF rfl rfl (bR (c := false) h68) rfl ?_
       refine RL.gF rfl rfl (bR (c := false) h68) rfl ?_
       refine RL.gF rfl rfl (bR (c := false) h68) rfl ?_
       refine RL.gF rfl rfl (bR (c := false) h68) rfl ?_
       refine V (run_pickF (bR (c := false) h68) (v := B false) rfl) ?_
       refine V (aV (B _) rfl) ?_
       refine RL.nil ?_
       refine CW.seq ?_
       refine SR ?_
       refine V (run_move e0_1) ?_
       refine V (run_eql rfl rfl) ?_
       refine RL.nil ?_
       refine CW.condF (bF ((by omega))) ?_
       refine CW.skip ?_
       refine SR ?_
       refine V (mV (B _) rfl) ?_
       refine V (run_not rfl) ?_
       refine RL.nil ?_
       refine CW.condT rfl ?_
       refine SR ?_
       refine V (aV (B false) rfl) ?_
       refine RL.nil ?_
       refine CW.ret ?_
       refine outP1 Tryz.results34 (congrArg B ?_) hH66.below
       first | (exfalso; omega) | exact (all_no (P := allP q) h0 ‹k < _› (by rw [allP_c ‹q = 1›]; first | assumption | exact (Bool.not_eq_true _).1 ‹_›)).symm | exact (all_no (P := allP q) h0 ‹k < _› (by rw [allP_r ‹q = 2›]; first | exact rule_n1 ‹_› | exact rule_n2 ‹_› | exact rule_n3 ‹_› | exact rule_n4 ‹_›)).symm | exact (all_yes (P := allP q) ‹¬ k < _› hg).symm
     ·refine RL.gF rfl rfl (bR (c := false) h64) rfl ?_
      refine RL.gF rfl rfl (bR (c := false) h64) rfl ?_
      refine RL.gF rfl rfl (bR (c := false) h64) rfl ?_
      refine V (run_pickF (bR (c := false) h64) (v := B false) rfl) ?_
      refine V (mV (B _) rfl) ?_
      refine RL.gF rfl rfl rfl rfl ?_
      refine RL.gF rfl rfl rfl rfl ?_
      refine RL.gF rfl rfl rfl rfl ?_
      refine RL.gF rfl rfl rfl rfl ?_
      refine V (run_pickF rfl (v := B false) rfl) ?_
      refine V (aV (B _) rfl) ?_
      refine RL.nil ?_
      refine CW.seq ?_
      refine SR ?_
      refine V (run_move e0_1) ?_
      refine V (run_eql rfl rfl) ?_
      refine RL.nil ?_
      refine CW.condF (bF ((by omega))) ?_
      refine CW.skip ?_
      refine SR ?_
      refine V (mV (B _) rfl) ?_
      refine V (run_not rfl) ?_
      refine RL.nil ?_
      refine CW.condT rfl ?_
      refine SR ?_
      refine V (aV (B false) rfl) ?_
      refine RL.nil ?_
      refine CW.ret ?_
      refine outP1 Tryz.results34 (congrArg B ?_) hH62.below
      first | (exfalso; omega) | exact (all_no (P := allP q) h0 ‹k < _› (by rw [allP_c ‹q = 1›]; first | assumption | exact (Bool.not_eq_true _).1 ‹_›)).symm | exact (all_no (P := allP q) h0 ‹k < _› (by rw [allP_r ‹q = 2›]; first | exact rule_n1 ‹_› | exact rule_n2 ‹_› | exact rule_n3 ‹_› | exact rule_n4 ‹_›)).symm | exact (all_yes (P := allP q) ‹¬ k < _› hg).symm
    ·refine RL.gF rfl rfl (bF h60) rfl ?_
     refine RL.gF rfl rfl (bF h60) rfl ?_
     refine RL.gF rfl rfl (bF h60) rfl ?_
     refine V (run_pickF (bF h60) (v := B false) rfl) ?_
     refine V (mV (B _) rfl) ?_
     refine RL.gF rfl rfl rfl rfl ?_
     refine RL.gF rfl rfl rfl rfl ?_
     refine RL.gF rfl rfl rfl rfl ?_
     refine V (run_pickF rfl (v := B false) rfl) ?_
     refine V (mV (B _) rfl) ?_
     refine RL.gF rfl rfl rfl rfl ?_
     refine RL.gF rfl rfl rfl rfl ?_
     refine RL.gF rfl rfl rfl rfl ?_
     refine RL.gF rfl rfl rfl rfl ?_
     refine V (run_pickF rfl (v := B false) rfl) ?_
     refine V (aV (B _) rfl) ?_
     refine RL.nil ?_
     refine CW.seq ?_
     refine SR ?_
     refine V (run_move e0_1) ?_
     refine V (run_eql rfl rfl) ?_
     refine RL.nil ?_
     refine CW.condF (bF ((by omega))) ?_
     refine CW.skip ?_
     refine SR ?_
     refine V (mV (B _) rfl) ?_
     refine V (run_not rfl) ?_
     refine RL.nil ?_
     refine CW.condT rfl ?_
     refine SR ?_
     refine V (aV (B false) rfl) ?_
     refine RL.nil ?_
     refine CW.ret ?_
     refine outP1 Tryz.results34 (congrArg B ?_) hH8.below
     first | (exfalso; omega) | exact (all_no (P := allP q) h0 ‹k < _› (by rw [allP_c ‹q = 1›]; first | assumption | exact (Bool.not_eq_true _).1 ‹_›)).symm | exact (all_no (P := allP q) h0 ‹k < _› (by rw [allP_r ‹q = 2›]; first | exact rule_n1 ‹_› | exact rule_n2 ‹_› | exact rule_n3 ‹_› | exact rule_n4 ‹_›)).symm | exact (all_yes (P := allP q) ‹¬ k < _› hg).symm
   ·refine CW.skip ?_
    refine CW.seq ?_
    refine SR ?_
    refine V (run_move e0_1) ?_
    refine V (run_eql rfl rfl) ?_
    refine RL.nil ?_
    refine CW.condF (bF ((by omega))) ?_
    refine CW.skip ?_
    refine SR ?_
    refine V (mV (B _) rfl) ?_
    refine V (run_not rfl) ?_
    refine RL.nil ?_
    refine CW.condT rfl ?_
    refine SR ?_
    refine V (aV (B false) rfl) ?_
    refine RL.nil ?_
    refine CW.ret ?_
    refine outP1 Tryz.results34 (congrArg B ?_) hH8.below
    first | (exfalso; omega) | exact (all_no (P := allP q) h0 ‹k < _› (by rw [allP_c ‹q = 1›]; first | assumption | exact (Bool.not_eq_true _).1 ‹_›)).symm | exact (all_no (P := allP q) h0 ‹k < _› (by rw [allP_r ‹q = 2›]; first | exact rule_n1 ‹_› | exact rule_n2 ‹_› | exact rule_n3 ‹_› | exact rule_n4 ‹_›)).symm | exact (all_yes (P := allP q) ‹¬ k < _› hg).symm
 ·refine CW.exit (id := 0) rfl ?_
  refine SR ?_
  refine V (aV (B true) rfl) ?_
  refine RL.nil ?_
  refine CW.ret ?_
  refine outP1 Tryz.results34 (congrArg B ?_) hH1.below
  first | (exfalso; omega) | exact (all_no (P := allP q) h0 ‹k < _› (by rw [allP_c ‹q = 1›]; first | assumption | exact (Bool.not_eq_true _).1 ‹_›)).symm | exact (all_no (P := allP q) h0 ‹k < _› (by rw [allP_r ‹q = 2›]; first | exact rule_n1 ‹_› | exact rule_n2 ‹_› | exact rule_n3 ‹_› | exact rule_n4 ‹_›)).symm | exact (all_yes (P := allP q) ‹¬ k < _› hg).symm

theorem s_isconst10 (n : NodeR) (w : World) (hn : NodeV (Kw w) n) (hA : ∀ (q : Int) (hq : q = 1 ∨ q = 2) (v : Value) (w : World), Sl w v 5 n.kids.length (n.kids.flatMap nodeL) → NodesV (Kw w) n.kids → Calls Tryz.prog 34 #[I q, v] w (Pure (B (n.kids.all (allP q))) w)) : Calls Tryz.prog 17 #[.agg (nodeL n).toArray] w (Pure (B (constB n.nd)) w) := by
 have hm1 := hn.kids_.small
 have hm2 := hn.names_.small
 unfold maxLen at hm1 hm2
 refine enter Tryz.func17 rfl Tryz.ntmps17 rfl ?_
 have hH := Hp.start w
 refine SR ?_
 refine RL.new rfl hH (f := fun b => (.pointer (some ⟨b, 0, none⟩))) (run_box (v := .agg _) rfl) ?_
 intro b3 w1 hH2
 refine V (aV (B false) rfl) ?_
 refine RL.nil ?_
 refine CW.seq ?_
 refine SR ?_
 refine V (fA underlying28 0 rfl sizeOf3 rfl) ?_
 refine V (run_ld underlying3 rfl rfl (hH2.cell (i := 0) rfl (v := I _) rfl)) ?_
 refine RL.nil ?_
 refine CW.block ?_
 refine SR ?_
 refine V (run_eql rfl rfl) ?_
 refine V (aV (B _) rfl) ?_
 refine RL.nil ?_
 refine CW.condP rfl (fun h5 => ?_) (fun h5 => ?_)
 ·refine SR ?_
  refine V (fA underlying28 2 rfl sizeOf9 rfl) ?_
  refine V (run_ld underlying9 rfl rfl (hH2.cell (i := 0) rfl (v := .string _) rfl)) ?_
  refine RL.callP rfl hH2 (c_clearanceref02_Right _  _) (run_call1 call32 rfl) ?_
  intro w6 hH7
  refine V (mV (B _) rfl) ?_
  refine RL.split (dj := 10) rfl (fun h9 => ?_) (fun h9 => ?_)
  ·refine RL.gT rfl (bR (c := true) h9) ?_
   refine V (fA underlying28 3 rfl sizeOf25 rfl) ?_
   refine RL.gT rfl (bR (c := true) h9) ?_
   refine V (run_ldV (hn.names_.sl.hp hH7) underlying25 rfl rfl (hH7.cell (i := 0) rfl rfl)) ?_
   refine RL.gT rfl (bR (c := true) h9) ?_
   refine V (run_lenSl (hn.names_.sl.hp hH7) rfl underlying25 rfl) ?_
   refine RL.gT rfl (bR (c := true) h9) ?_
   refine V (fA underlying28 4 rfl sizeOf26 rfl) ?_
   refine RL.gT rfl (bR (c := true) h9) ?_
   refine V (run_ldV (hn.kids_.sl.hp hH7) underlying26 rfl rfl (hH7.cell (i := 0) rfl rfl)) ?_
   refine RL.gT rfl (bR (c := true) h9) ?_
   refine V (run_lenSl (hn.kids_.sl.hp hH7) rfl underlying26 rfl) ?_
   refine RL.gT rfl (bR (c := true) h9) ?_
   refine V (run_addW rfl rfl) ?_
   refine RL.gT rfl (bR (c := true) h9) ?_
   refine V (run_eql rfl rfl) ?_
   refine V (run_pickT (bR (c := true) h9) (v := B _) rfl) ?_
   refine V (aV (B _) rfl) ?_
   refine RL.nil ?_
   refine CW.ret ?_
   refine outP1 Tryz.results17 (congrArg B ?_) hH7.below
   first | (rw [const_2 ‹n.kind = 2›, wrap_len hm2 hm1]; simp [*]; done) | (rw [const_3 ‹n.kind = 3›]; simp [*]; done) | (rw [const_2 ‹n.kind = 2›]; simp [*]; done) | exact const_4r ‹_› ‹_› ‹_› ‹_› | exact const_4s ‹_› ‹_› | exact const_4t ‹_› ‹_› | exact const_4k ‹_› ‹_› | exact const_5r ‹_› ‹_› ‹_› | exact const_5s ‹_› ‹_› | exact const_5t ‹_› ‹_› | exact (const_x ‹_› ‹_› ‹_› ‹_›).symm
  ·refine RL.gF rfl rfl (bR (c := false) h9) rfl ?_
   refine RL.gF rfl rfl (bR (c := false) h9) rfl ?_
   refine RL.gF rfl rfl (bR (c := false) h9) rfl ?_
   refine RL.gF rfl rfl (bR (c := false) h9) rfl ?_
   refine RL.gF rfl rfl (bR (c := false) h9) rfl ?_
   refine RL.gF rfl rfl (bR (c := false) h9) rfl ?_
   refine RL.gF rfl rfl (bR (c := false) h9) rfl ?_
   refine RL.gF rfl rfl (bR (c := false) h9) rfl ?_
   refine V (run_pickF (bR (c := false) h9) (v := B false) rfl) ?_
   refine V (aV (B _) rfl) ?_
   refine RL.nil ?_
   refine CW.ret ?_
   refine outP1 Tryz.results17 (congrArg B ?_) hH7.below
   first | (rw [const_2 ‹n.kind = 2›, wrap_len hm2 hm1]; simp [*]; done) | (rw [const_3 ‹n.kind = 3›]; simp [*]; done) | (rw [const_2 ‹n.kind = 2›]; simp [*]; done) | exact const_4r ‹_› ‹_› ‹_› ‹_› | exact const_4s ‹_› ‹_› | exact const_4t ‹_› ‹_› | exact const_4k ‹_› ‹_› | exact const_5r ‹_› ‹_› ‹_› | exact const_5s ‹_› ‹_› | exact const_5t ‹_› ‹_› | exact (const_x ‹_› ‹_› ‹_› ‹_›).symm
 ·refine SR ?_
  refine V (run_eql rfl rfl) ?_
  refine V (aV (B _) rfl) ?_
  refine RL.nil ?_
  refine CW.condP rfl (fun h12 => ?_) (fun h12 => ?_)
  ·refine SR ?_
   refine V (fA underlying28 2 rfl sizeOf9 rfl) ?_
   refine V (run_ld underlying9 rfl rfl (hH2.cell (i := 0) rfl (v := .string _) rfl)) ?_
   refine V (run_eqlS rfl rfl) ?_
   refine V (mV (B _) rfl) ?_
   refine RL.splitP (dj := 25) rfl (fun h14 => ?_) (fun h14 => ?_)
   ·refine RL.gT rfl (bT h14) ?_
    refine V (fA underlying28 3 rfl sizeOf25 rfl) ?_
    refine RL.gT rfl (bT h14) ?_
    refine V (run_ldV (hn.names_.sl.hp hH2) underlying25 rfl rfl (hH2.cell (i := 0) rfl rfl)) ?_
    refine RL.gT rfl (bT h14) ?_
    refine RL.callP rfl hH2 (c_clearanceref10_right _ _  _ (hn.names_.sl.hp hH2)) (run_call1 call33 rfl) ?_
    intro w15 hH16
    refine V (run_pickT (bT h14) (v := B _) rfl) ?_
    refine V (mV (B _) rfl) ?_
    refine RL.split (dj := 30) rfl (fun h18 => ?_) (fun h18 => ?_)
    ·refine RL.gT rfl (bR (c := true) h18) ?_
     refine V (fA underlying28 4 rfl sizeOf26 rfl) ?_
     refine RL.gT rfl (bR (c := true) h18) ?_
     refine V (run_ldV (hn.kids_.sl.hp hH16) underlying26 rfl rfl (hH16.cell (i := 0) rfl rfl)) ?_
     refine RL.gT rfl (bR (c := true) h18) ?_
     refine V (run_lenSl (hn.kids_.sl.hp hH16) rfl underlying26 rfl) ?_
     refine RL.gT rfl (bR (c := true) h18) ?_
     refine V (run_eql rfl rfl) ?_
     refine V (run_pickT (bR (c := true) h18) (v := B _) rfl) ?_
     refine V (aV (B _) rfl) ?_
     refine RL.nil ?_
     refine CW.ret ?_
     refine outP1 Tryz.results17 (congrArg B ?_) hH16.below
     first | (rw [const_2 ‹n.kind = 2›, wrap_len hm2 hm1]; simp [*]; done) | (rw [const_3 ‹n.kind = 3›]; simp [*]; done) | (rw [const_2 ‹n.kind = 2›]; simp [*]; done) | exact const_4r ‹_› ‹_› ‹_› ‹_› | exact const_4s ‹_› ‹_› | exact const_4t ‹_› ‹_› | exact const_4k ‹_› ‹_› | exact const_5r ‹_› ‹_› ‹_› | exact const_5s ‹_› ‹_› | exact const_5t ‹_› ‹_› | exact (const_x ‹_› ‹_› ‹_› ‹_›).symm
    ·refine RL.gF rfl rfl (bR (c := false) h18) rfl ?_
     refine RL.gF rfl rfl (bR (c := false) h18) rfl ?_
     refine RL.gF rfl rfl (bR (c := false) h18) rfl ?_
     refine RL.gF rfl rfl (bR (c := false) h18) rfl ?_
     refine V (run_pickF (bR (c := false) h18) (v := B false) rfl) ?_
     refine V (aV (B _) rfl) ?_
     refine RL.nil ?_
     refine CW.ret ?_
     refine outP1 Tryz.results17 (congrArg B ?_) hH16.below
     first | (rw [const_2 ‹n.kind = 2›, wrap_len hm2 hm1]; simp [*]; done) | (rw [const_3 ‹n.kind = 3›]; simp [*]; done) | (rw [const_2 ‹n.kind = 2›]; simp [*]; done) | exact const_4r ‹_› ‹_› ‹_› ‹_› | exact const_4s ‹_› ‹_› | exact const_4t ‹_› ‹_› | exact const_4k ‹_› ‹_› | exact const_5r ‹_› ‹_› ‹_› | exact const_5s ‹_› ‹_› | exact const_5t ‹_› ‹_› | exact (const_x ‹_› ‹_› ‹_› ‹_›).symm
   ·refine RL.gF rfl rfl (bF h14) rfl ?_
    refine RL.gF rfl rfl (bF h14) rfl ?_
    refine RL.gF rfl rfl (bF h14) rfl ?_
    refine V (run_pickF (bF h14) (v := B false) rfl) ?_
    refine V (mV (B _) rfl) ?_
    refine RL.gF rfl rfl rfl rfl ?_
    refine RL.gF rfl rfl rfl rfl ?_
    refine RL.gF rfl rfl rfl rfl ?_
    refine RL.gF rfl rfl rfl rfl ?_
    refine V (run_pickF rfl (v := B false) rfl) ?_
    refine V (aV (B _) rfl) ?_
    refine RL.nil ?_
    refine CW.ret ?_
    refine outP1 Tryz.results17 (congrArg B ?_) hH2.below
    first | (rw [const_2 ‹n.kind = 2›, wrap_len hm2 hm1]; simp [*]; done) | (rw [const_3 ‹n.kind = 3›]; simp [*]; done) | (rw [const_2 ‹n.kind = 2›]; simp [*]; done) | exact const_4r ‹_› ‹_› ‹_› ‹_› | exact const_4s ‹_› ‹_› | exact const_4t ‹_› ‹_› | exact const_4k ‹_› ‹_› | exact const_5r ‹_› ‹_› ‹_› | exact const_5s ‹_› ‹_› | exact const_5t ‹_› ‹_› | exact (const_x ‹_› ‹_› ‹_› ‹_›).symm
  ·refine SR ?_
   refine V (run_eql rfl rfl) ?_
   refine V (aV (B _) rfl) ?_
   refine RL.nil ?_
   refine CW.condP rfl (fun h21 => ?_) (fun h21 => ?_)
   ·refine SR ?_
    refine V (fA underlying28 2 rfl sizeOf9 rfl) ?_
    refine V (run_ld underlying9 rfl rfl (hH2.cell (i := 0) rfl (v := .string _) rfl)) ?_
    refine V (run_eqlS rfl rfl) ?_
    refine V (mV (B _) rfl) ?_
    refine RL.splitP (dj := 41) rfl (fun h23 => ?_) (fun h23 => ?_)
    ·refine RL.gT rfl (bT h23) ?_
     refine V (fA underlying28 3 rfl sizeOf25 rfl) ?_
     refine RL.gT rfl (bT h23) ?_
     refine V (run_ldV (hn.names_.sl.hp hH2) underlying25 rfl rfl (hH2.cell (i := 0) rfl rfl)) ?_
     refine RL.gT rfl (bT h23) ?_
     refine V (run_lenSl (hn.names_.sl.hp hH2) rfl underlying25 rfl) ?_
     refine RL.gT rfl (bT h23) ?_
     refine V (run_eql rfl rfl) ?_
     refine V (run_pickT (bT h23) (v := B _) rfl) ?_
     refine V (mV (B _) rfl) ?_
     refine RL.splitP (dj := 47) rfl (fun h25 => ?_) (fun h25 => ?_)
     ·refine RL.gT rfl (bT h25) ?_
      refine V (fA underlying28 4 rfl sizeOf26 rfl) ?_
      refine RL.gT rfl (bT h25) ?_
      refine V (run_ldV (hn.kids_.sl.hp hH2) underlying26 rfl rfl (hH2.cell (i := 0) rfl rfl)) ?_
      refine RL.gT rfl (bT h25) ?_
      refine V (run_lenSl (hn.kids_.sl.hp hH2) rfl underlying26 rfl) ?_
      refine RL.gT rfl (bT h25) ?_
      refine V (run_gtr rfl rfl) ?_
      refine V (run_pickT (bT h25) (v := B _) rfl) ?_
      refine V (mV (B _) rfl) ?_
      refine RL.splitP (dj := 53) rfl (fun h27 => ?_) (fun h27 => ?_)
      ·refine RL.gT rfl (bT h27) ?_
       refine V (fA underlying28 4 rfl sizeOf26 rfl) ?_
       refine RL.gT rfl (bT h27) ?_
       refine V (run_ldV (hn.kids_.sl.hp hH2) underlying26 rfl rfl (hH2.cell (i := 0) rfl rfl)) ?_
       refine RL.gT rfl (bT h27) ?_
       refine RL.callP rfl hH2 (hA 1 (by omega) _ _ (hn.kids_.sl.hp hH2) ⟨(NodeV.mono hH2.kw hn).each⟩) (run_call2 call34 (show _ = I 1 from rfl) rfl) ?_
       intro w28 hH29
       refine V (run_pickT (bT h27) (v := B _) rfl) ?_
       refine V (aV (B _) rfl) ?_
       refine RL.nil ?_
       refine CW.ret ?_
       refine outP1 Tryz.results17 (congrArg B ?_) hH29.below
       first | (rw [const_2 ‹n.kind = 2›, wrap_len hm2 hm1]; simp [*]; done) | (rw [const_3 ‹n.kind = 3›]; simp [*]; done) | (rw [const_2 ‹n.kind = 2›]; simp [*]; done) | exact const_4r ‹_› ‹_› ‹_› ‹_› | exact const_4s ‹_› ‹_› | exact const_4t ‹_› ‹_› | exact const_4k ‹_› ‹_› | exact const_5r ‹_› ‹_› ‹_› | exact const_5s ‹_› ‹_› | exact const_5t ‹_› ‹_› | exact (const_x ‹_› ‹_› ‹_› ‹_›).symm
      ·refine RL.gF rfl rfl (bF h27) rfl ?_
       refine RL.gF rfl rfl (bF h27) rfl ?_
       refine RL.gF rfl rfl (bF h27) rfl ?_
       refine V (run_pickF (bF h27) (v := B false) rfl) ?_
       refine V (aV (B _) rfl) ?_
       refine RL.nil ?_
       refine CW.ret ?_
       refine outP1 Tryz.results17 (congrArg B ?_) hH2.below
       first | (rw [const_2 ‹n.kind = 2›, wrap_len hm2 hm1]; simp [*]; done) | (rw [const_3 ‹n.kind = 3›]; simp [*]; done) | (rw [const_2 ‹n.kind = 2›]; simp [*]; done) | exact const_4r ‹_› ‹_› ‹_› ‹_› | exact const_4s ‹_› ‹_› | exact const_4t ‹_› ‹_› | exact const_4k ‹_› ‹_› | exact const_5r ‹_› ‹_› ‹_› | exact const_5s ‹_› ‹_› | exact const_5t ‹_› ‹_› | exact (const_x ‹_› ‹_› ‹_› ‹_›).symm
     ·refine RL.gF rfl rfl (bF h25) rfl ?_
      refine RL.gF rfl rfl (bF h25) rfl ?_
      refine RL.gF rfl rfl (bF h25) rfl ?_
      refine RL.gF rfl rfl (bF h25) rfl ?_
      refine V (run_pickF (bF h25) (v := B false) rfl) ?_
      refine V (mV (B _) rfl) ?_
      refine RL.gF rfl rfl rfl rfl ?_
      refine RL.gF rfl rfl rfl rfl ?_
      refine RL.gF rfl rfl rfl rfl ?_
      refine V (run_pickF rfl (v := B false) rfl) ?_
      refine V (aV (B _) rfl) ?_
      refine RL.nil ?_
      refine CW.ret ?_
      refine outP1 Tryz.results17 (congrArg B ?_) hH2.below
      first | (rw [const_2 ‹n.kind = 2›, wrap_len hm2 hm1]; simp [*]; done) | (rw [const_3 ‹n.kind = 3›]; simp [*]; done) | (rw [const_2 ‹n.kind = 2›]; simp [*]; done) | exact const_4r ‹_› ‹_› ‹_› ‹_› | exact const_4s ‹_› ‹_› | exact const_4t ‹_› ‹_› | exact const_4k ‹_› ‹_› | exact const_5r ‹_› ‹_› ‹_› | exact const_5s ‹_› ‹_› | exact const_5t ‹_› ‹_› | exact (const_x ‹_› ‹_› ‹_› ‹_›).symm
    ·refine RL.gF rfl rfl (bF h23) rfl ?_
     refine RL.gF rfl rfl (bF h23) rfl ?_
     refine RL.gF rfl rfl (bF h23) rfl ?_
     refine RL.gF rfl rfl (bF h23) rfl ?_
     refine V (run_pickF (bF h23) (v := B false) rfl) ?_
     refine V (mV (B _) rfl) ?_
     refine RL.gF rfl rfl rfl rfl ?_
     refine RL.gF rfl rfl rfl rfl ?_
     refine RL.gF rfl rfl rfl rfl ?_
     refine RL.gF rfl rfl rfl rfl ?_
     refine V (run_pickF rfl (v := B false) rfl) ?_
     refine V (mV (B _) rfl) ?_
     refine RL.gF rfl rfl rfl rfl ?_
     refine RL.gF rfl rfl rfl rfl ?_
     refine RL.gF rfl rfl rfl rfl ?_
     refine V (run_pickF rfl (v := B false) rfl) ?_
     refine V (aV (B _) rfl) ?_
     refine RL.nil ?_
     refine CW.ret ?_
     refine outP1 Tryz.results17 (congrArg B ?_) hH2.below
     first | (rw [const_2 ‹n.kind = 2›, wrap_len hm2 hm1]; simp [*]; done) | (rw [const_3 ‹n.kind = 3›]; simp [*]; done) | (rw [const_2 ‹n.kind = 2›]; simp [*]; done) | exact const_4r ‹_› ‹_› ‹_› ‹_› | exact const_4s ‹_› ‹_› | exact const_4t ‹_› ‹_› | exact const_4k ‹_› ‹_› | exact const_5r ‹_› ‹_› ‹_› | exact const_5s ‹_› ‹_› | exact const_5t ‹_› ‹_› | exact (const_x ‹_› ‹_› ‹_› ‹_›).symm
   ·refine SR ?_
    refine V (run_eql rfl rfl) ?_
    refine V (aV (B _) rfl) ?_
    refine RL.nil ?_
    refine CW.condP rfl (fun h32 => ?_) (fun h32 => ?_)
    ·refine SR ?_
     refine V (fA underlying28 2 rfl sizeOf9 rfl) ?_
     refine V (run_ld underlying9 rfl rfl (hH2.cell (i := 0) rfl (v := .string _) rfl)) ?_
     refine V (run_eqlS rfl rfl) ?_
     refine V (mV (B _) rfl) ?_
     refine RL.splitP (dj := 63) rfl (fun h34 => ?_) (fun h34 => ?_)
     ·refine RL.gT rfl (bT h34) ?_
      refine V (fA underlying28 3 rfl sizeOf25 rfl) ?_
      refine RL.gT rfl (bT h34) ?_
      refine V (run_ldV (hn.names_.sl.hp hH2) underlying25 rfl rfl (hH2.cell (i := 0) rfl rfl)) ?_
      refine RL.gT rfl (bT h34) ?_
      refine V (run_lenSl (hn.names_.sl.hp hH2) rfl underlying25 rfl) ?_
      refine RL.gT rfl (bT h34) ?_
      refine V (run_eql rfl rfl) ?_
      refine V (run_pickT (bT h34) (v := B _) rfl) ?_
      refine V (mV (B _) rfl) ?_
      refine RL.splitP (dj := 69) rfl (fun h36 => ?_) (fun h36 => ?_)
      ·refine RL.gT rfl (bT h36) ?_
       refine V (fA underlying28 4 rfl sizeOf26 rfl) ?_
       refine RL.gT rfl (bT h36) ?_
       refine V (run_ldV (hn.kids_.sl.hp hH2) underlying26 rfl rfl (hH2.cell (i := 0) rfl rfl)) ?_
       refine RL.gT rfl (bT h36) ?_
       refine RL.callP rfl hH2 (hA 2 (by omega) _ _ (hn.kids_.sl.hp hH2) ⟨(NodeV.mono hH2.kw hn).each⟩) (run_call2 call34 (show _ = I 2 from rfl) rfl) ?_
       intro w37 hH38
       refine V (run_pickT (bT h36) (v := B _) rfl) ?_
       refine V (aV (B _) rfl) ?_
       refine RL.nil ?_
       refine CW.ret ?_
       refine outP1 Tryz.results17 (congrArg B ?_) hH38.below
       first | (rw [const_2 ‹n.kind = 2›, wrap_len hm2 hm1]; simp [*]; done) | (rw [const_3 ‹n.kind = 3›]; simp [*]; done) | (rw [const_2 ‹n.kind = 2›]; simp [*]; done) | exact const_4r ‹_› ‹_› ‹_› ‹_› | exact const_4s ‹_› ‹_› | exact const_4t ‹_› ‹_› | exact const_4k ‹_› ‹_› | exact const_5r ‹_› ‹_› ‹_› | exact const_5s ‹_› ‹_› | exact const_5t ‹_› ‹_› | exact (const_x ‹_› ‹_› ‹_› ‹_›).symm
      ·refine RL.gF rfl rfl (bF h36) rfl ?_
       refine RL.gF rfl rfl (bF h36) rfl ?_
       refine RL.gF rfl rfl (bF h36) rfl ?_
       refine V (run_pickF (bF h36) (v := B false) rfl) ?_
       refine V (aV (B _) rfl) ?_
       refine RL.nil ?_
       refine CW.ret ?_
       refine outP1 Tryz.results17 (congrArg B ?_) hH2.below
       first | (rw [const_2 ‹n.kind = 2›, wrap_len hm2 hm1]; simp [*]; done) | (rw [const_3 ‹n.kind = 3›]; simp [*]; done) | (rw [const_2 ‹n.kind = 2›]; simp [*]; done) | exact const_4r ‹_› ‹_› ‹_› ‹_› | exact const_4s ‹_› ‹_› | exact const_4t ‹_› ‹_› | exact const_4k ‹_› ‹_› | exact const_5r ‹_› ‹_› ‹_› | exact const_5s ‹_› ‹_› | exact const_5t ‹_› ‹_› | exact (const_x ‹_› ‹_› ‹_› ‹_›).symm
     ·refine RL.gF rfl rfl (bF h34) rfl ?_
      refine RL.gF rfl rfl (bF h34) rfl ?_
      refine RL.gF rfl rfl (bF h34) rfl ?_
      refine RL.gF rfl rfl (bF h34) rfl ?_
      refine V (run_pickF (bF h34) (v := B false) rfl) ?_
      refine V (mV (B _) rfl) ?_
      refine RL.gF rfl rfl rfl rfl ?_
      refine RL.gF rfl rfl rfl rfl ?_
      refine RL.gF rfl rfl rfl rfl ?_
      refine V (run_pickF rfl (v := B false) rfl) ?_
      refine V (aV (B _) rfl) ?_
      refine RL.nil ?_
      refine CW.ret ?_
      refine outP1 Tryz.results17 (congrArg B ?_) hH2.below
      first | (rw [const_2 ‹n.kind = 2›, wrap_len hm2 hm1]; simp [*]; done) | (rw [const_3 ‹n.kind = 3›]; simp [*]; done) | (rw [const_2 ‹n.kind = 2›]; simp [*]; done) | exact const_4r ‹_› ‹_› ‹_› ‹_› | exact const_4s ‹_› ‹_› | exact const_4t ‹_› ‹_› | exact const_4k ‹_› ‹_› | exact const_5r ‹_› ‹_› ‹_› | exact const_5s ‹_› ‹_› | exact const_5t ‹_› ‹_› | exact (const_x ‹_› ‹_› ‹_› ‹_›).symm
    ·refine CW.skip ?_
     refine SR ?_
     refine V (aV (B false) rfl) ?_
     refine RL.nil ?_
     refine CW.ret ?_
     refine outP1 Tryz.results17 (congrArg B ?_) hH2.below
     first | (rw [const_2 ‹n.kind = 2›, wrap_len hm2 hm1]; simp [*]; done) | (rw [const_3 ‹n.kind = 3›]; simp [*]; done) | (rw [const_2 ‹n.kind = 2›]; simp [*]; done) | exact const_4r ‹_› ‹_› ‹_› ‹_› | exact const_4s ‹_› ‹_› | exact const_4t ‹_› ‹_› | exact const_4k ‹_› ‹_› | exact const_5r ‹_› ‹_› ‹_› | exact const_5s ‹_› ‹_› | exact const_5t ‹_› ‹_› | exact (const_x ‹_› ‹_› ‹_› ‹_›).symm
theorem c_clearanceref10_IsConst (n : NodeR) : ∀ w, NodeV (Kw w) n → Calls Tryz.prog 17 #[.agg (nodeL n).toArray] w (Pure (B (constB n.nd)) w) := node_ind (C := fun n => ∀ w, NodeV (Kw w) n → Calls Tryz.prog 17 #[.agg (nodeL n).toArray] w (Pure (B (constB n.nd)) w)) (fun n ih w hn => s_isconst10 n w hn fun q hq v w hs hv => s_all q v n.kids hq w hs hv ih) n

theorem c_spell_constant_1_1 (W0 : World) (b c : Nat) (v : Value) (l : List Int) (f : Fac) (i : Int) (hi : 0 ≤ i ∧ i < f.names.length) (w : World) (hH : Hp W0 w [.row v 53 2 l.length ((l.map (wdN f.names)).flatMap wdL), .blk b (.cells #[v] 25 (0, 0))]) (hlen : l.length ≤ 64) (hf : FacV (Kw W0) f) (hc : W0.heap[c]? = some (.cells (facC f) 50 (0, 0))) : Calls Tryz.prog 54 #[I i, .pointer (some ⟨b, 0, none⟩), .pointer (some ⟨c, 0, none⟩)] w (Ret fun u w' => u = B true ∧ ∃ v', Hp W0 w' [.row v' 53 2 (l ++ [i]).length (((l ++ [i]).map (wdN f.names)).flatMap wdL), .blk b (.cells #[v'] 25 (0, 0))]) := by
 refine enter Tryz.func54 rfl Tryz.ntmps54 rfl ?_
 refine SR ?_
 refine V (aV (B false) rfl) ?_
 refine RL.nil ?_
 refine CW.seq ?_
 refine CW.regionS (by kernel_rfl) hH (sQ (sQ sR)) ?_
 intro w1 hH2
 refine AT 1 rfl (hH2.sub (sQ (sQ sR))) (fun w hS => fA underlying50 1 rfl sizeOf45 rfl) ?_
 refine AT 2 rfl (hH2.sub (sQ (sQ sR))) (fun w hS => run_ld underlying45 rfl rfl (hS.extCell hc rfl)) ?_
 refine AT 3 rfl (hH2.sub (sQ (sQ sR))) (fun w hS => mV (I _) rfl) ?_
 refine AT 4 rfl (hH2.sub (sQ (sQ sR))) (fun w hS => run_indexAddrS (hf.names.sl.hp hS) underlying45 sizeOf9 rfl rfl (by omega)) ?_
 refine AT 5 rfl (hH2.sub (sQ (sQ sR))) (fun w hS => run_ld underlying9 rfl rfl ((hf.names.sl.hp hS).cell _ _ (txL_at (by omega)))) ?_
 refine AT 6 rfl (hH2.sub (sQ (sQ sR))) (fun w hS => run_bld (vs := [(0, S _)]) rfl (built_wdLs _)) ?_
 refine AN.two 0 7 (by kernel_rfl) ?_ ?_
 ·refine AO.read rfl gnone rfl hH2 (sQ (sQ sR)) (run_ld underlying25 rfl rfl (hH2.cell (i := 1) rfl rfl)) ?_
  refine A1 7 ?_
  refine AO.new rfl gnone rfl hH2 (sQ (sQ sR)) (f := fun b => .slice (some ⟨b, 0, none⟩) 1 1) (run_mkRecs wdL_len underlying25 rfl rfl rfl (l := [_]) rfl (by decide) (by decide) rfl) ?_
  intro b7 w5 hH6
  refine A1 8 ?_
  refine AO.app rfl gnone rfl hH6 (j := 1) rfl (fun _ => (sQ (sQ (sQ sR)))) (Hp.slFlat wdL_len hH6 (i := 0) (l := [_]) rfl (by simp [maxLen])) rfl rfl underlying25 rfl rfl (size := 2) (bytes := 24) rfl rfl rfl (by decide) (by simp [wdL, Value.oneCell']) (by simp only [List.length_cons, List.length_nil]; omega) (by simp only [maxLen, List.length_cons, List.length_nil]; omega) ?_
  intro v10 w8 hH9
  simp only [z0, z1] at hH9
  refine A1 9 ?_
  refine AO.set rfl gnone hH9 (j := 2) rfl (sQ (sQ (sQ sR))) (run_st rfl rfl (v := v10) rfl (row_cells (hH9.get (i := 1) rfl)).1 (row_cells (hH9.get (i := 1) rfl)).2 (hH9.blk (i := 2) rfl) (by first | decide | simp)) ?_
  intro w11 hH12
  simp only [z0, z1] at hH12
  refine AD ?_
  refine SR ?_
  refine V (aV (B true) rfl) ?_
  refine RL.nil ?_
  refine CW.ret ?_
  exact out1 Tryz.results54 rfl ⟨rfl, (v10 : Value), Hp.conv hH12.tail (by simp [wdN])⟩
 ·refine AO.new rfl gnone rfl hH2 (sQ (sQ sR)) (f := fun b => .slice (some ⟨b, 0, none⟩) 1 1) (run_mkRecs wdL_len underlying25 rfl rfl rfl (l := [_]) rfl (by decide) (by decide) rfl) ?_
  intro b15 w13 hH14
  refine A1 0 ?_
  refine AO.read rfl gnone rfl hH14 (sQ (sQ (sQ sR))) (run_ld underlying25 rfl rfl (hH14.cell (i := 2) rfl rfl)) ?_
  refine A1 8 ?_
  refine AO.app rfl gnone rfl hH14 (j := 1) rfl (fun _ => (sQ (sQ (sQ sR)))) (Hp.slFlat wdL_len hH14 (i := 0) (l := [_]) rfl (by simp [maxLen])) rfl rfl underlying25 rfl rfl (size := 2) (bytes := 24) rfl rfl rfl (by decide) (by simp [wdL, Value.oneCell']) (by simp only [List.length_cons, List.length_nil]; omega) (by simp only [maxLen, List.length_cons, List.length_nil]; omega) ?_
  intro v20 w18 hH19
  simp only [z0, z1] at hH19
  refine A1 9 ?_
  refine AO.set rfl gnone hH19 (j := 2) rfl (sQ (sQ (sQ sR))) (run_st rfl rfl (v := v20) rfl (row_cells (hH19.get (i := 1) rfl)).1 (row_cells (hH19.get (i := 1) rfl)).2 (hH19.blk (i := 2) rfl) (by first | decide | simp)) ?_
  intro w21 hH22
  simp only [z0, z1] at hH22
  refine AD ?_
  refine SR ?_
  refine V (aV (B true) rfl) ?_
  refine RL.nil ?_
  refine CW.ret ?_
  exact out1 Tryz.results54 rfl ⟨rfl, (v20 : Value), Hp.conv hH22.tail (by simp [wdN])⟩

theorem c_spell_constant_1 (K : Vu) (c : Nat) (f : Fac) (s : BitVec 64) (hw : subB s (below f.names.length) = true) (w : World) (hK : Le K (Kw w)) (hf : FacV (Kw w) f) (hc : w.heap[c]? = some (.cells (facC f) 50 (0, 0))) (hT : Tab w) : Calls Tryz.prog 52 #[U s, .pointer (some ⟨c, 0, none⟩)] w (PureF K (fun K' u => SlV K' u 2 (namesOf f.names s).length ((namesOf f.names s).flatMap wdL)) w) := by
 refine enter Tryz.func52 rfl Tryz.ntmps52 rfl ?_
 have hH := Hp.start w
 refine SR ?_
 refine V (aV (.slice none 0 0) rfl) ?_
 refine RL.nil ?_
 refine SR ?_
 refine RL.new rfl hH (f := fun b => (.pointer (some ⟨b, 0, none⟩))) (run_alloc Tryz.zeroValue25) ?_
 intro b3 w1 hH2
 have hH4 := hH2.nilRow 53 2
 refine RL.nil ?_
 refine SR ?_
 refine V (mV (U _) rfl) ?_
 refine V (run_mkF2 (by conv => lhs; whnf) (by conv => lhs; whnf)) ?_
 refine RL.call rfl (run_call2 call53 (v1 := U s) rfl (v2 := .func (.func 54) #[] #[.pointer (some ⟨b3, 0, none⟩), .pointer (some ⟨c, 0, none⟩)]) rfl) (c_mask_Each 54 _ (fun l w' => ∃ v, Hp w w' [.row v 53 2 l.length ((l.map (wdN f.names)).flatMap wdL), .blk b3 (.cells #[v] 25 (0, 0))]) (fun _ _ => False) s _ call54 (fun l w' w'' h hb => h.imp fun v h => h.call hb) (fun l w' h => h.elim fun v h => hT.hp h) (fun l i r w' he h => h.elim fun v h => by
   have hl64 : l.length ≤ 64 := by have := lst_len s; rw [he] at this; simp at this; omega
   have hi : 0 ≤ i ∧ i < f.names.length := lst_in hw (by rw [he]; simp)
   refine Ret.calls (c_spell_constant_1_1 w b3 c v l f i hi w' h hl64 hf hc) ?_
   intro u w2 hq
   exact ⟨true, hq.1, fun _ => hq.2, fun h => by cases h⟩) ⟨.slice none 0 0, hH4⟩) ?_
 rintro u w5 ⟨rfl, hor⟩
 obtain ⟨v7, hH6⟩ := hor.resolve_right (fun ⟨_, _, _, _, h⟩ => h)
 refine RL.nil ?_
 refine SR ?_
 refine V (run_ld underlying25 rfl rfl (hH6.cell (i := 1) rfl rfl)) ?_
 refine V (run_assign (by conv => lhs; whnf)) ?_
 refine RL.nil ?_
 refine CW.ret ?_
 obtain ⟨Z8, hz9, hv10, -⟩ := hH6.frz (K)
 have hH11 : Hp _ w5 (_ :: Z8) := hz9.zin0 (L := [_])
 refine out1 Tryz.results52 rfl ⟨Z8, (hH11.sub (sQ sR)), ?_⟩
 rw [namesOf_def, List.length_map]; exact hv10

end Go.Proofs.YtningfhcklabmaaGreatDoor.W
