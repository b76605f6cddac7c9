/-
  The walks of the functions that the laws of this seat reach, part 1: each returns what its plain counterpart tells, and turns nothing that was there.
-/
import Derived.Test.YtningfhcklabmaaGreatDoorProg
import Derived.Test.YtningfhcklabmaaGreatDoorEnv
import Derived.Test.YtningfhcklabmaaGreatDoorPlain
import Derived.Test.YtningfhcklabmaaGreatDoorBase
import Derived.Test.YtningfhcklabmaaGreatDoorOrd
import Derived.Test.YtningfhcklabmaaGreatDoorRel
import Derived.Test.YtningfhcklabmaaGreatDoorClo
import Derived.Test.YtningfhcklabmaaGreatDoorCov
import Derived.Test.YtningfhcklabmaaGreatDoorArr
import Derived.Test.YtningfhcklabmaaGreatDoorHas
import Derived.Test.YtningfhcklabmaaGreatDoorGrd
import Derived.Test.YtningfhcklabmaaGreatDoorStr
import Derived.Test.YtningfhcklabmaaGreatDoorVu
import Derived.Test.YtningfhcklabmaaGreatDoorShp
import Derived.Test.YtningfhcklabmaaGreatDoorShl
import Derived.Test.YtningfhcklabmaaGreatDoorShq
import Derived.Test.YtningfhcklabmaaGreatDoorShr
import Derived.Test.YtningfhcklabmaaGreatDoorCut
import Derived.Test.YtningfhcklabmaaGreatDoorRec
import Derived.Test.YtningfhcklabmaaGreatDoorOut
import Derived.Test.YtningfhcklabmaaGreatDoorScp
import Derived.Test.YtningfhcklabmaaGreatDoorScq
import Derived.Test.YtningfhcklabmaaGreatDoorByt
import Derived.Test.YtningfhcklabmaaGreatDoorNod
import Derived.Test.YtningfhcklabmaaGreatDoorSpl
import Derived.Test.YtningfhcklabmaaGreatDoorSpb
import Derived.Test.YtningfhcklabmaaGreatDoorSpt
import Derived.Test.YtningfhcklabmaaGreatDoorSpn
import Derived.Test.YtningfhcklabmaaGreatDoorSpx
import Derived.Test.YtningfhcklabmaaGreatDoorSpy
import Derived.Test.YtningfhcklabmaaGreatDoorMin
namespace Go.Proofs.YtningfhcklabmaaGreatDoor.W
open Go Go.RowKit Go.Proofs.YtningfhcklabmaaGreatDoor.E Go.Proofs.YtningfhcklabmaaGreatDoor.M
set_option linter.unusedVariables false
set_option linter.unusedSimpArgs false
set_option maxRecDepth 100000
open Tryz

theorem zero_rel : ∀ w, (zeroValue 48).run Tryz.prog w = .ok (.agg (relC Rl.none)) w := fun w => by
  rw [relC_def]; exact Tryz.zeroValue48 w
theorem built_rel (a : Int) : Tryz.prog.built 48 [(0, I a)] = some (relC ⟨a, fun _ => 0#64⟩) := by
  rw [relC_def]; rfl
theorem relT_fields : Tryz.prog.fieldsOf 48 = #[{ name := "N", type := 3, offset := 0, embedded := false, tag := "", pkgPath := "", byteOffset := 0 }, { name := "Up", type := 46, offset := 1, embedded := false, tag := "", pkgPath := "", byteOffset := 8 }] := by
  unfold Program.fieldsOf; rw [Tryz.underlying48]
theorem relT_fact : RelT Tryz.prog 48 { name := "N", type := 3, offset := 0, embedded := false, tag := "", pkgPath := "", byteOffset := 0 } { name := "Up", type := 46, offset := 1, embedded := false, tag := "", pkgPath := "", byteOffset := 8 } 32 :=
  ⟨by rw [relT_fields]; exact Tryz.underlying48, relT_fields, by decide, by decide, rfl, rfl, Tryz.underlying3, Tryz.isAgg3, Tryz.underlying46, Tryz.isAgg46, Tryz.sizeOf46, Tryz.underlying32, Tryz.sizeOf32, Tryz.isAgg32, by kernel_rfl, by kernel_rfl⟩
theorem elT_fact : ElT Tryz.prog 34 32 := ⟨Tryz.underlying34, Tryz.underlying32, Tryz.sizeOf32, Tryz.isAgg32, by kernel_rfl⟩
theorem zero_el : ∀ w, (zeroValue 34).run Tryz.prog w = .ok (.agg (elC el0)) w := fun w => by
  rw [elC_zero]; exact Tryz.zeroValue34 w
theorem zero_fac : ∀ w, (zeroValue 50).run Tryz.prog w = .ok (.agg (facC fac0)) w := fun w => Tryz.zeroValue50 w
theorem built_rel0 : Tryz.prog.built 48 [] = some (relC Rl.none) := by
  rw [relC_def]; rfl
theorem built_shpT {v : Value} (h : v.cells = #[v]) : Tryz.prog.built 24 [(0, B true), (1, v)] = some #[B true, v] :=
  (show Tryz.prog.built 24 [(0, B true), (1, v)] = Instr.fill (#[(0, 1), (1, 1)][·]?) #[B false, .slice none 0 0] [(0, B true), (1, v)] from rfl).trans (by simp only [Instr.fill, h]; rfl)
theorem built_shp1 {v : Value} (h : v.cells = #[v]) : Tryz.prog.built 24 [(1, v)] = some #[B false, v] :=
  (show Tryz.prog.built 24 [(1, v)] = Instr.fill (#[(0, 1), (1, 1)][·]?) #[B false, .slice none 0 0] [(1, v)] from rfl).trans (by simp only [Instr.fill, h]; rfl)
theorem built_shp0 : Tryz.prog.built 24 [(0, B true)] = some #[B true, .slice none 0 0] := rfl
theorem built_fac (k : Int) (b n : Nat) (l : List Tx) : Tryz.prog.built 50 [(0, I k), (1, .slice (some ⟨b, 0, none⟩) n n)] = some (facC ⟨k, .slice (some ⟨b, 0, none⟩) n n, l, Rl.none⟩) := rfl
theorem built_el2 (a b : BitVec 64) : Tryz.prog.built 34 [(0, U a), (1, U b)] = some (elC (putE (putE el0 0 a) 1 b)) := by
  rw [elC_def]; rfl
theorem built_el1 (a : BitVec 64) : Tryz.prog.built 34 [(0, U a)] = some (elC (putE el0 0 a)) := by
  rw [elC_def]; rfl
theorem zero_flt : ∀ w, (zeroValue 36).run Tryz.prog w = .ok (.agg (fltL flt0).toArray) w := fun w => Tryz.zeroValue36 w
theorem built_fltL (a b : Int) : Tryz.prog.built 36 [(0, I a), (1, I b)] = some (fltL ⟨a, b⟩).toArray := rfl
theorem built_fltL0 : Tryz.prog.built 36 [] = some (fltL flt0).toArray := rfl
theorem built_wdL (a : Tx) (b : Int) : Tryz.prog.built 53 [(0, S a), (1, I b)] = some (wdL ⟨a, b⟩).toArray := rfl
theorem built_wdLs (a : Tx) : Tryz.prog.built 53 [(0, S a)] = some (wdL ⟨a, 0⟩).toArray := rfl
theorem built_el0 : Tryz.prog.built 34 [] = some (elC el0) := by
  rw [elC_def]; rfl
theorem built_node0 : Tryz.prog.built 28 [] = some (nodeL node0).toArray := rfl
theorem eq_wd (a b : Wd) : EqT Tryz.prog 53 (wdL a).toArray (wdL b).toArray (decide (a = b)) :=
  (eqT Tryz.underlying53 (by kernel_rfl) (by kernel_rfl) (.cons (fldS (a := a.text) (b := b.text) (by decide) Tryz.underlying9 Tryz.isAgg9 rfl rfl) (.cons (fldI (k := .i64) (a := a.place) (b := b.place) (by decide) Tryz.underlying3 Tryz.isAgg3 rfl rfl) .nil))).conv (by
    obtain ⟨a1, a2⟩ := a; obtain ⟨b1, b2⟩ := b
    rw [Bool.eq_iff_iff]; simp)
theorem built_up2 : Tryz.prog.built 46 [(0, U 3#64), (1, U 2#64)] = some ((relL twoR).drop 1).toArray := by kernel_rfl
theorem built_relA : Tryz.prog.built 48 [(0, I 2), (1, .agg ((relL twoR).drop 1).toArray)] = some (relC twoR) := by
  rw [relC_def]; kernel_rfl
theorem built_facR (k : Int) (b n : Nat) (l : List Tx) : Tryz.prog.built 50 [(0, I k), (1, .slice (some ⟨b, 0, none⟩) n n), (2, .agg (relC twoR))] = some (facC ⟨k, .slice (some ⟨b, 0, none⟩) n n, l, twoR⟩) := by
  rw [relC_def]; kernel_rfl
theorem built_nodeKd (k : Int) (b n : Nat) (l : List NodeR) : Tryz.prog.built 28 [(0, I k), (4, .slice (some ⟨b, 0, none⟩) n n)] = some (nodeL (kidsR k (.slice (some ⟨b, 0, none⟩) n n) l)).toArray := rfl
theorem built_nodeK (k : Int) : Tryz.prog.built 28 [(0, I k)] = some (nodeL (kindR k tx0 (.slice none 0 0) [])).toArray := rfl
theorem built_nodeT (k : Int) (t : Tx) : Tryz.prog.built 28 [(0, I k), (2, S t)] = some (nodeL (kindR k t (.slice none 0 0) [])).toArray := rfl
theorem built_nodeN {v : Value} (h : v.cells = #[v]) (k : Int) (l : List Wd) : Tryz.prog.built 28 [(0, I k), (3, v)] = some (nodeL (kindR k tx0 v l)).toArray :=
  (show Tryz.prog.built 28 [(0, I k), (3, v)] = Instr.fill (#[(0, 1), (1, 1), (2, 1), (3, 1), (4, 1)][·]?) (nodeL node0).toArray [(0, I k), (3, v)] from rfl).trans (by simp only [Instr.fill, h]; rfl)
theorem built_nodeTN {v : Value} (h : v.cells = #[v]) (k : Int) (t : Tx) (l : List Wd) : Tryz.prog.built 28 [(0, I k), (2, S t), (3, v)] = some (nodeL (kindR k t v l)).toArray :=
  (show Tryz.prog.built 28 [(0, I k), (2, S t), (3, v)] = Instr.fill (#[(0, 1), (1, 1), (2, 1), (3, 1), (4, 1)][·]?) (nodeL node0).toArray [(0, I k), (2, S t), (3, v)] from rfl).trans (by simp only [Instr.fill, h]; rfl)
theorem built_rdrL0 : Tryz.prog.built 58 [] = some #[B false, I 0] := rfl
theorem zero_got : ∀ w, (zeroValue 61).run Tryz.prog w = .ok (.agg (gotL got0).toArray) w := fun w => Tryz.zeroValue61 w
theorem built_gotL_0 (x : BitVec 64) : Tryz.prog.built 61 [(0, U x)] = some (gotL ⟨x, false, 0⟩).toArray := rfl
theorem built_gotL_1_2 (b : Bool) (a : Int) : Tryz.prog.built 61 [(1, B b), (2, I a)] = some (gotL ⟨0#64, b, a⟩).toArray := rfl
theorem eq_flt (a b : Flt) : EqT Tryz.prog 36 (fltL a).toArray (fltL b).toArray (decide (a = b)) :=
  (eqT Tryz.underlying36 (by kernel_rfl) (by kernel_rfl) (.cons (fldI (k := .i64) (a := a.cls) (b := b.cls) (by decide) Tryz.underlying3 Tryz.isAgg3 rfl rfl) (.cons (fldI (k := .i64) (a := a.place) (b := b.place) (by decide) Tryz.underlying3 Tryz.isAgg3 rfl rfl) .nil))).conv (by
    obtain ⟨a1, a2⟩ := a; obtain ⟨b1, b2⟩ := b
    rw [Bool.eq_iff_iff]; simp)

theorem c_rung_chain (n : Int) (w : World) : Calls Tryz.prog 101 #[I n] w (Pure (B (chainB n)) w) := by
 refine enter Tryz.func101 rfl Tryz.ntmps101 rfl ?_
 have hH := Hp.start w
 refine SR ?_
 refine V (aV (B false) rfl) ?_
 refine RL.nil ?_
 refine SR ?_
 refine V (mV (I _) rfl) ?_
 refine V (run_geq rfl rfl) ?_
 refine V (mV (B _) rfl) ?_
 refine RL.splitP (dj := 5) rfl (fun h2 => ?_) (fun h2 => ?_)
 ·refine RL.gT rfl (bT h2) ?_
  refine V (mV (I _) rfl) ?_
  refine RL.gT rfl (bT h2) ?_
  refine V (run_leq rfl rfl) ?_
  refine V (run_pickT (bT h2) (v := B _) rfl) ?_
  refine V (aV (B _) rfl) ?_
  refine RL.nil ?_
  refine CW.ret ?_
  refine outP1 Tryz.results101 (congrArg B ?_) hH.below
  (simp [chainB]; omega)
 ·refine RL.gF rfl rfl (bF h2) rfl ?_
  refine RL.gF rfl rfl (bF h2) rfl ?_
  refine V (run_pickF (bF h2) (v := B false) rfl) ?_
  refine V (aV (B _) rfl) ?_
  refine RL.nil ?_
  refine CW.ret ?_
  refine outP1 Tryz.results101 (congrArg B ?_) hH.below
  (simp [chainB]; omega)

theorem c_mask_Below (n : Int) (w : World) : Calls Tryz.prog 80 #[I n] w (Pure (U (below n)) w) := by
 refine enter Tryz.func80 rfl Tryz.ntmps80 rfl ?_
 have hH := Hp.start w
 refine SR ?_
 refine V (aV (U 0#64) rfl) ?_
 refine RL.nil ?_
 refine CW.seq ?_
 refine SR ?_
 refine V (mV (I _) rfl) ?_
 refine V (run_leq rfl rfl) ?_
 refine RL.nil ?_
 refine CW.condP rfl (fun h2 => ?_) (fun h2 => ?_)
 ·refine SR ?_
  refine V (aV (U 0#64) rfl) ?_
  refine RL.nil ?_
  refine CW.ret ?_
  exact outP1 Tryz.results80 (congrArg U (below_nonpos ‹_›).symm) hH.below
 ·refine CW.skip ?_
  refine CW.seq ?_
  refine SR ?_
  refine V (mV (I _) rfl) ?_
  refine V (run_geq rfl rfl) ?_
  refine RL.nil ?_
  refine CW.condP rfl (fun h4 => ?_) (fun h4 => ?_)
  ·refine SR ?_
   refine V (aV (U 18446744073709551615#64) rfl) ?_
   refine RL.nil ?_
   refine CW.ret ?_
   exact outP1 Tryz.results80 (congrArg U (below_all ‹_›).symm) hH.below
  ·refine CW.skip ?_
   refine SR ?_
   refine V (mV (I _) rfl) ?_
   refine V (run_convIU underlying3 underlying112 rfl) ?_
   refine V (run_shlU (a := 1#64) rfl rfl) ?_
   refine V (run_subU rfl (b := 1#64) rfl) ?_
   refine V (aV (U _) rfl) ?_
   refine RL.nil ?_
   refine CW.ret ?_
   exact outP1 Tryz.results80 (congrArg U (below_mid ‹_› ‹_›).symm) hH.below

theorem c_rung_Word (n k : Int) (w : World) : Calls Tryz.prog 91 #[I n, I k] w (Pure (.tuple #[U (wordv n k).1, B (wordv n k).2]) w) := by
 refine enter Tryz.func91 rfl Tryz.ntmps91 rfl ?_
 have hH := Hp.start w
 refine SR ?_
 refine V (aV (U 0#64) rfl) ?_
 refine V (aV (B false) rfl) ?_
 refine RL.nil ?_
 refine CW.seq ?_
 refine SR ?_
 refine V (mV (I _) rfl) ?_
 refine RL.callP rfl hH (c_rung_chain _  _) (run_call1 call101 rfl) ?_
 intro w1 hH2
 refine V (run_not rfl) ?_
 refine V (mV (B _) rfl) ?_
 refine RL.split (dj := 9) rfl (fun h5 => ?_) (fun h5 => ?_)
 ·refine RL.gF rfl rfl (bR (c := true) h5) rfl ?_
  refine RL.gF rfl rfl (bR (c := true) h5) rfl ?_
  refine V (run_pickT (bR (c := true) h5) (v := B true) rfl) ?_
  refine V (mV (B _) rfl) ?_
  refine RL.gF rfl rfl rfl rfl ?_
  refine RL.gF rfl rfl rfl rfl ?_
  refine RL.gF rfl rfl rfl rfl ?_
  refine V (run_pickT rfl (v := B true) rfl) ?_
  refine RL.nil ?_
  refine CW.condT rfl ?_
  refine SR ?_
  refine V (aV (U 0#64) rfl) ?_
  refine V (aV (B false) rfl) ?_
  refine RL.nil ?_
  refine CW.ret ?_
  have hn := chain_f ‹(!chainB n) = true›
  refine outP2 Tryz.results91 (congrArg U ?_) (congrArg B ?_) hH2.below <;> rw [wordv_no (by omega)]
 ·refine RL.gT rfl (bR (c := false) h5) ?_
  refine V (mV (I _) rfl) ?_
  refine RL.gT rfl (bR (c := false) h5) ?_
  refine V (run_lss rfl rfl) ?_
  refine V (run_pickF (bR (c := false) h5) (v := B _) rfl) ?_
  refine V (mV (B _) rfl) ?_
  refine RL.splitP (dj := 13) rfl (fun h7 => ?_) (fun h7 => ?_)
  ·refine RL.gF rfl rfl (bT h7) rfl ?_
   refine RL.gF rfl rfl (bT h7) rfl ?_
   refine RL.gF rfl rfl (bT h7) rfl ?_
   refine V (run_pickT (bT h7) (v := B true) rfl) ?_
   refine RL.nil ?_
   refine CW.condT rfl ?_
   refine SR ?_
   refine V (aV (U 0#64) rfl) ?_
   refine V (aV (B false) rfl) ?_
   refine RL.nil ?_
   refine CW.ret ?_
   have hn := chain_t ‹(!chainB n) = false›
   refine outP2 Tryz.results91 (congrArg U ?_) (congrArg B ?_) hH2.below <;> rw [wordv_no (by omega)]
  ·refine RL.gT rfl (bF h7) ?_
   refine V (mV (I _) rfl) ?_
   refine RL.gT rfl (bF h7) ?_
   refine V (mV (I _) rfl) ?_
   refine RL.gT rfl (bF h7) ?_
   refine V (run_geq rfl rfl) ?_
   refine V (run_pickF (bF h7) (v := B _) rfl) ?_
   refine RL.nil ?_
   refine CW.condP rfl (fun h9 => ?_) (fun h9 => ?_)
   ·refine SR ?_
    refine V (aV (U 0#64) rfl) ?_
    refine V (aV (B false) rfl) ?_
    refine RL.nil ?_
    refine CW.ret ?_
    have hn := chain_t ‹(!chainB n) = false›
    refine outP2 Tryz.results91 (congrArg U ?_) (congrArg B ?_) hH2.below <;> rw [wordv_no (by omega)]
   ·refine CW.skip ?_
    refine SR ?_
    refine V (mV (I _) rfl) ?_
    refine RL.callP rfl hH2 (c_mask_Below _  _) (run_call1 call80 rfl) ?_
    intro w10 hH11
    refine V (aV (U _) rfl) ?_
    refine V (aV (B true) rfl) ?_
    refine RL.nil ?_
    refine CW.ret ?_
    have hn := chain_t ‹(!chainB n) = false›
    refine outP2 Tryz.results91 (congrArg U ?_) (congrArg B ?_) hH11.below <;> rw [wordv_yes (by omega)]

theorem c_rung_Level (n : Int) (s : BitVec 64) (w : World) : Calls Tryz.prog 59 #[I n, U s] w (Pure (.tuple #[I (level n s).1, B (level n s).2]) w) := by
 refine enter Tryz.func59 rfl Tryz.ntmps59 rfl ?_
 have hH := Hp.start w
 refine SR ?_
 refine V (aV (I 0) rfl) ?_
 refine V (aV (B false) rfl) ?_
 refine RL.nil ?_
 refine CW.seq ?_
 refine SR ?_
 refine V (mV (I _) rfl) ?_
 refine RL.callP rfl hH (c_rung_chain _  _) (run_call1 call101 rfl) ?_
 intro w1 hH2
 refine V (run_not rfl) ?_
 refine RL.nil ?_
 refine CW.cond rfl (fun h5 => ?_) (fun h5 => ?_)
 ·refine SR ?_
  refine V (aV (I 0) rfl) ?_
  refine V (aV (B false) rfl) ?_
  refine RL.nil ?_
  refine CW.ret ?_
  have hn := chain_f ‹(!chainB n) = true›
  refine outP2 Tryz.results59 (congrArg I ?_) (congrArg B ?_) hH2.below <;> rw [level_no s hn]
 ·refine CW.skip ?_
  refine CW.seq ?_
  refine SR ?_
  refine V (mV (I _) rfl) ?_
  refine V (mV (I 0) rfl) ?_
  refine RL.nil ?_
  refine CW.block ?_
  have hn := chain_t ‹(!chainB n) = false›
  refine CW.loop (G := (Int)) (fun (k : Int) s' w' => (Fr [4, 5, 6, 11, 12, 13, 14, 15, 16, 17, 18, 19] _ s') ∧ (Hp w w' _) ∧ (s' 11 = I k) ∧ (0 ≤ k) ∧ (k ≤ n) ∧ (∀ j : Int, 0 ≤ j → j < k → s ≠ below j)) (fun (k : Int) => (n - k).toNat) (0) ⟨Fr.refl _ _, hH2, rfl, (by omega), (by omega), fun j a b => absurd b (by omega)⟩ ?_
  rintro k sg6 w6 ⟨fr6, hH6, e11_6, h0, hk, hf⟩
  have e1_6 : sg6 1 = U _ := (fr6 1 rfl).trans rfl
  have e10_6 : sg6 10 = I _ := (fr6 10 rfl).trans rfl
  refine SR ?_
  refine V (run_lss e11_6 e10_6) ?_
  refine RL.nil ?_
  refine CW.seq ?_
  refine CW.condP rfl (fun h8 => ?_) (fun h8 => ?_)
  ·refine CW.skip ?_
   refine CW.seq ?_
   refine CW.block ?_
   refine SR ?_
   refine V (run_move e11_6) ?_
   refine V (aV (I _) rfl) ?_
   refine RL.nil ?_
   refine SR ?_
   refine V (run_move e1_6) ?_
   refine V (mV (I _) rfl) ?_
   refine RL.callP rfl hH6 (c_mask_Below _  _) (run_call1 call80 rfl) ?_
   intro w9 hH10
   refine V (run_eqlU rfl rfl) ?_
   refine RL.nil ?_
   refine CW.condP rfl (fun h12 => ?_) (fun h12 => ?_)
   ·refine SR ?_
    refine V (mV (I _) rfl) ?_
    refine V (aV (I _) rfl) ?_
    refine V (aV (B true) rfl) ?_
    refine RL.nil ?_
    refine CW.ret ?_
    refine outP2 Tryz.results59 (congrArg I ?_) (congrArg B ?_) hH10.below <;> rw [level_at hn h0 (by omega) ‹_› hf]
   ·refine CW.skip ?_
    refine CW.region ?_
    refine V (run_add e11_6 rfl (by omega)) ?_
    refine V (mV (I _) rfl) ?_
    refine RL.nil ?_
    refine ⟨k + 1, ?_, fr6.u4.u4.u1, hH10, (congrArg I (by first | rfl | omega)), ?_, ?_, ?_⟩
    ·((try dsimp only); omega)
    ·omega
    ·omega
    ·exact fun j a b => if e : j = k then e ▸ ‹¬ s = below k› else hf j a (by omega)
  ·refine CW.exit (id := 0) rfl ?_
   refine SR ?_
   refine V (aV (I 0) rfl) ?_
   refine V (aV (B false) rfl) ?_
   refine RL.nil ?_
   refine CW.ret ?_
   refine outP2 Tryz.results59 (congrArg I ?_) (congrArg B ?_) hH6.below <;> rw [level_none hn (fun j a b => hf j a (by omega))]

theorem c_mask_in (i : Int) (w : World) : Calls Tryz.prog 123 #[I i] w (Pure (B (inB i)) w) := by
 refine enter Tryz.func123 rfl Tryz.ntmps123 rfl ?_
 have hH := Hp.start w
 refine SR ?_
 refine V (aV (B false) rfl) ?_
 refine RL.nil ?_
 refine SR ?_
 refine V (mV (I _) rfl) ?_
 refine V (run_geq rfl rfl) ?_
 refine V (mV (B _) rfl) ?_
 refine RL.splitP (dj := 5) rfl (fun h2 => ?_) (fun h2 => ?_)
 ·refine RL.gT rfl (bT h2) ?_
  refine V (mV (I _) rfl) ?_
  refine RL.gT rfl (bT h2) ?_
  refine V (run_lss rfl rfl) ?_
  refine V (run_pickT (bT h2) (v := B _) rfl) ?_
  refine V (aV (B _) rfl) ?_
  refine RL.nil ?_
  refine CW.ret ?_
  refine outP1 Tryz.results123 (congrArg B ?_) hH.below
  (simp [inB]; try omega)
 ·refine RL.gF rfl rfl (bF h2) rfl ?_
  refine RL.gF rfl rfl (bF h2) rfl ?_
  refine V (run_pickF (bF h2) (v := B false) rfl) ?_
  refine V (aV (B _) rfl) ?_
  refine RL.nil ?_
  refine CW.ret ?_
  refine outP1 Tryz.results123 (congrArg B ?_) hH.below
  (simp [inB]; try omega)

theorem c_mask_Has (s : BitVec 64) (i : Int) (w : World) : Calls Tryz.prog 145 #[U s, I i] w (Pure (B (hasB s i)) w) := by
 refine enter Tryz.func145 rfl Tryz.ntmps145 rfl ?_
 have hH := Hp.start w
 refine SR ?_
 refine V (aV (B false) rfl) ?_
 refine RL.nil ?_
 refine SR ?_
 refine V (mV (I _) rfl) ?_
 refine RL.callP rfl hH (c_mask_in _  _) (run_call1 call123 rfl) ?_
 intro w1 hH2
 refine V (mV (B _) rfl) ?_
 refine RL.split (dj := 7) rfl (fun h4 => ?_) (fun h4 => ?_)
 ·refine RL.gT rfl (bR (c := true) h4) ?_
  refine V (mV (U _) rfl) ?_
  refine RL.gT rfl (bR (c := true) h4) ?_
  refine V (mV (I _) rfl) ?_
  refine RL.gT rfl (bR (c := true) h4) ?_
  refine V (run_convIU underlying3 underlying112 rfl) ?_
  refine RL.gT rfl (bR (c := true) h4) ?_
  refine V (run_shrU rfl rfl) ?_
  refine RL.gT rfl (bR (c := true) h4) ?_
  refine V (run_andU rfl (b := 1#64) rfl) ?_
  refine RL.gT rfl (bR (c := true) h4) ?_
  refine V (run_eqlU rfl (b := 1#64) rfl) ?_
  refine V (run_pickT (bR (c := true) h4) (v := B _) rfl) ?_
  refine V (aV (B _) rfl) ?_
  refine RL.nil ?_
  refine CW.ret ?_
  refine outP1 Tryz.results145 (congrArg B ?_) hH2.below
  exact has_bit s ‹inB i = true›
 ·refine RL.gF rfl rfl (bR (c := false) h4) rfl ?_
  refine RL.gF rfl rfl (bR (c := false) h4) rfl ?_
  refine RL.gF rfl rfl (bR (c := false) h4) rfl ?_
  refine RL.gF rfl rfl (bR (c := false) h4) rfl ?_
  refine RL.gF rfl rfl (bR (c := false) h4) rfl ?_
  refine RL.gF rfl rfl (bR (c := false) h4) rfl ?_
  refine V (run_pickF (bR (c := false) h4) (v := B false) rfl) ?_
  refine V (aV (B _) rfl) ?_
  refine RL.nil ?_
  refine CW.ret ?_
  refine outP1 Tryz.results145 (congrArg B ?_) hH2.below
  exact (has_no s ‹inB i = false›).symm

theorem c_mask_With (s : BitVec 64) (i : Int) (w : World) : Calls Tryz.prog 88 #[U s, I i] w (Pure (U (withB s i)) w) := by
 refine enter Tryz.func88 rfl Tryz.ntmps88 rfl ?_
 have hH := Hp.start w
 refine SR ?_
 refine V (aV (U 0#64) rfl) ?_
 refine RL.nil ?_
 refine CW.seq ?_
 refine SR ?_
 refine V (mV (I _) rfl) ?_
 refine RL.callP rfl hH (c_mask_in _  _) (run_call1 call123 rfl) ?_
 intro w1 hH2
 refine V (run_not rfl) ?_
 refine RL.nil ?_
 refine CW.cond rfl (fun h5 => ?_) (fun h5 => ?_)
 ·refine SR ?_
  refine V (mV (U _) rfl) ?_
  refine V (aV (U _) rfl) ?_
  refine RL.nil ?_
  refine CW.ret ?_
  refine outP1 Tryz.results88 (congrArg U ?_) hH2.below
  simp_all [withB]
 ·refine CW.skip ?_
  refine SR ?_
  refine V (mV (U _) rfl) ?_
  refine V (mV (I _) rfl) ?_
  refine V (run_convIU underlying3 underlying112 rfl) ?_
  refine V (run_shlU (a := 1#64) rfl rfl) ?_
  refine V (run_orU rfl rfl) ?_
  refine V (aV (U _) rfl) ?_
  refine RL.nil ?_
  refine CW.ret ?_
  refine outP1 Tryz.results88 (congrArg U ?_) hH2.below
  simp_all [withB]

theorem c_mask_Sub (a b : BitVec 64) (w : World) : Calls Tryz.prog 79 #[U a, U b] w (Pure (B (subB a b)) w) := by
 refine enter Tryz.func79 rfl Tryz.ntmps79 rfl ?_
 have hH := Hp.start w
 refine SR ?_
 refine V (aV (B false) rfl) ?_
 refine RL.nil ?_
 refine SR ?_
 refine V (mV (U _) rfl) ?_
 refine V (mV (U _) rfl) ?_
 refine V (run_andNotU rfl rfl) ?_
 refine V (run_eqlU rfl (b := 0#64) rfl) ?_
 refine V (aV (B _) rfl) ?_
 refine RL.nil ?_
 refine CW.ret ?_
 refine outP1 Tryz.results79 (congrArg B ?_) hH.below
 rfl

theorem c_mask_Of (v : Value) (l : List Int) (w : World) (hs : Sl w v 1 l.length (l.map I)) : Calls Tryz.prog 134 #[v] w (Pure (U (ofl l)) w) := by
 have hm := hs.small
 unfold maxLen at hm
 refine enter Tryz.func134 rfl Tryz.ntmps134 rfl ?_
 have hH := Hp.start w
 refine SR ?_
 refine V (aV (U 0#64) rfl) ?_
 refine RL.nil ?_
 refine SR ?_
 refine V (aV (U 0#64) rfl) ?_
 refine RL.nil ?_
 refine CW.seq ?_
 refine SR ?_
 refine V (run_move (by conv => lhs; whnf)) ?_
 refine V (run_lenSl (hs.hp hH) rfl underlying82 rfl) ?_
 refine V (mV (I 0) rfl) ?_
 refine RL.nil ?_
 refine CW.block ?_
 refine CW.loop (G := (Int)) (fun (k : Int) s' w' => (Fr [3, 5, 8, 9, 10, 11, 12, 13, 14, 15] _ s') ∧ (Hp w w' _) ∧ (s' 3 = U (ofl (l.take k.toNat))) ∧ (s' 8 = I k) ∧ (0 ≤ k) ∧ (k ≤ l.length)) (fun (k : Int) => (l.length - k).toNat) (0) ⟨Fr.refl _ _, hH, (congrArg U (by simp [ofl_nil])), rfl, (by omega), (by omega)⟩ ?_
 rintro k sg1 w1 ⟨fr1, hH1, e3_1, e8_1, h0, hk⟩
 have e2_1 : sg1 2 = U _ := (fr1 2 rfl).trans rfl
 have e6_1 := (fr1 6 rfl).trans (by conv => lhs; whnf)
 have e7_1 : sg1 7 = I _ := (fr1 7 rfl).trans rfl
 refine SR ?_
 refine V (run_lss e8_1 e7_1) ?_
 refine RL.nil ?_
 refine CW.seq ?_
 refine CW.condP rfl (fun h3 => ?_) (fun h3 => ?_)
 ·refine CW.skip ?_
  refine CW.seq ?_
  refine CW.block ?_
  refine SR ?_
  refine V (run_indexAddrS (hs.hp hH1) underlying82 sizeOf3 e6_1 e8_1 (by omega)) ?_
  refine V (run_ld underlying3 rfl rfl ((hs.hp hH1).cell _ _ (map_at (by omega)))) ?_
  refine V (aV (I _) rfl) ?_
  refine RL.nil ?_
  refine CW.region ?_
  refine V (run_move e3_1) ?_
  refine V (mV (I _) rfl) ?_
  refine RL.callP rfl hH1 (c_mask_With _ _  _) (run_call2 call88 rfl rfl) ?_
  intro w4 hH5
  refine V (aV (U _) rfl) ?_
  refine RL.nil ?_
  refine CW.region ?_
  refine V (run_add e8_1 rfl (by omega)) ?_
  refine V (mV (I _) rfl) ?_
  refine RL.nil ?_
  refine ⟨k + 1, ?_, fr1.u4.u4.u1.u1, hH5, (congrArg U (by rw [withB_ofl, ← take_next h0 ‹_›])), (congrArg I (by first | rfl | omega)), ?_, ?_⟩
  ·((try dsimp only); omega)
  ·omega
  ·omega
 ·refine CW.exit (id := 0) rfl ?_
  refine SR ?_
  refine V (run_move e3_1) ?_
  refine V (aV (U _) rfl) ?_
  refine RL.nil ?_
  refine CW.ret ?_
  refine outP1 Tryz.results134 (congrArg U ?_) hH1.below
  rw [take_all ‹_›]

theorem c_clearanceref01_Has (s : BitVec 64) (i : Int) (w : World) : Calls Tryz.prog 62 #[U s, I i] w (Pure (B (hasB s i)) w) := by
 refine enter Tryz.func62 rfl Tryz.ntmps62 rfl ?_
 have hH := Hp.start w
 refine SR ?_
 refine V (aV (B false) rfl) ?_
 refine RL.nil ?_
 refine CW.seq ?_
 refine SR ?_
 refine V (mV (I _) rfl) ?_
 refine V (run_lss rfl rfl) ?_
 refine V (mV (B _) rfl) ?_
 refine RL.splitP (dj := 8) rfl (fun h2 => ?_) (fun h2 => ?_)
 ·refine RL.gF rfl rfl (bT h2) rfl ?_
  refine RL.gF rfl rfl (bT h2) rfl ?_
  refine V (run_pickT (bT h2) (v := B true) rfl) ?_
  refine RL.nil ?_
  refine CW.condT rfl ?_
  refine SR ?_
  refine V (aV (B false) rfl) ?_
  refine RL.nil ?_
  refine CW.ret ?_
  refine outP1 Tryz.results62 (congrArg B ?_) hH.below
  exact (has_no s (by simp [inB]; omega)).symm
 ·refine RL.gT rfl (bF h2) ?_
  refine V (mV (I _) rfl) ?_
  refine RL.gT rfl (bF h2) ?_
  refine V (run_gtr rfl rfl) ?_
  refine V (run_pickF (bF h2) (v := B _) rfl) ?_
  refine RL.nil ?_
  refine CW.condP rfl (fun h4 => ?_) (fun h4 => ?_)
  ·refine SR ?_
   refine V (aV (B false) rfl) ?_
   refine RL.nil ?_
   refine CW.ret ?_
   refine outP1 Tryz.results62 (congrArg B ?_) hH.below
   exact (has_no s (by simp [inB]; omega)).symm
  ·refine CW.skip ?_
   refine CW.seq ?_
   refine SR ?_
   refine V (aV (I 0) rfl) ?_
   refine RL.nil ?_
   refine CW.block ?_
   refine CW.loop (G := (Int)) (fun (k : Int) s' w' => (Fr [0, 5, 12, 13, 14, 15, 16, 17, 18] _ s') ∧ (Hp w w' _) ∧ (s' 0 = U (s >>> k.toNat)) ∧ (s' 5 = I k) ∧ (0 ≤ k) ∧ (k ≤ i)) (fun (k : Int) => (i - k).toNat) (0) ⟨Fr.refl _ _, hH, (congrArg U (by simp)), rfl, (by omega), (by omega)⟩ ?_
   rintro k sg5 w5 ⟨fr5, hH5, e0_5, e5_5, h0, hk⟩
   have e1_5 : sg5 1 = I _ := (fr5 1 rfl).trans rfl
   have e4_5 : sg5 4 = B _ := (fr5 4 rfl).trans rfl
   refine CW.seq ?_
   refine SR ?_
   refine V (run_move e5_5) ?_
   refine V (run_move e1_5) ?_
   refine V (run_lss rfl rfl) ?_
   refine RL.nil ?_
   refine CW.condP rfl (fun h7 => ?_) (fun h7 => ?_)
   ·refine CW.skip ?_
    refine CW.seq ?_
    refine CW.block ?_
    refine CW.region ?_
    refine V (run_move e0_5) ?_
    refine V (run_quoU rfl (b := 2#64) rfl (by decide)) ?_
    refine V (aV (U _) rfl) ?_
    refine RL.nil ?_
    refine CW.region ?_
    refine V (run_move e5_5) ?_
    refine V (run_add rfl rfl (by omega)) ?_
    refine V (aV (I _) rfl) ?_
    refine RL.nil ?_
    refine ⟨k + 1, ?_, fr5.u4.u4.u1, hH5, (congrArg U (by rw [half, show (k + 1).toNat = k.toNat + 1 by omega])), (congrArg I (by first | rfl | omega)), ?_, ?_⟩
    ·((try dsimp only); omega)
    ·omega
    ·omega
   ·refine CW.exit (id := 0) rfl ?_
    refine SR ?_
    refine V (run_move e0_5) ?_
    refine V (run_remU rfl (b := 2#64) rfl (by decide)) ?_
    refine V (run_eqlU rfl (b := 1#64) rfl) ?_
    refine V (aV (B _) rfl) ?_
    refine RL.nil ?_
    refine CW.ret ?_
    refine outP1 Tryz.results62 (congrArg B ?_) hH5.below
    (rw [hasB, show inB i = true by simp [inB]; omega, show k = i by omega]; rw [Bool.eq_iff_iff]; simp only [decide_eq_true_eq, Bool.true_and]; exact rem_bit s _)

theorem c_clearanceref01_Of (v : Value) (l : List Int) (w : World) (hs : Sl w v 1 l.length (l.map I)) : Calls Tryz.prog 92 #[v] w (Pure (U (ofl l)) w) := by
 have hm := hs.small
 unfold maxLen at hm
 refine enter Tryz.func92 rfl Tryz.ntmps92 rfl ?_
 have hH := Hp.start w
 refine SR ?_
 refine V (aV (U 0#64) rfl) ?_
 refine RL.nil ?_
 refine SR ?_
 refine V (aV (U 0#64) rfl) ?_
 refine V (aV (U 1#64) rfl) ?_
 refine RL.nil ?_
 refine CW.seq ?_
 refine SR ?_
 refine V (aV (I 0) rfl) ?_
 refine RL.nil ?_
 refine CW.block ?_
 refine CW.loop (G := (Int)) (fun (i : Int) s' w' => (Fr [3, 4, 5, 6, 7, 8, 9, 10, 11, 12, 13, 14, 15, 16, 17, 18, 19, 20, 21, 22, 23, 24, 25, 26, 27] _ s') ∧ (Hp w w' _) ∧ (s' 3 = U (oflTo l i.toNat)) ∧ (s' 4 = U (1#64 <<< i.toNat)) ∧ (s' 5 = I i) ∧ (0 ≤ i) ∧ (i ≤ 64)) (fun (i : Int) => (64 - i).toNat) (0) ⟨Fr.refl _ _, hH, (congrArg U (by rfl)), (congrArg U (by rfl)), rfl, (by omega), (by omega)⟩ ?_
 rintro i sg1 w1 ⟨fr1, hH1, e3_1, e4_1, e5_1, i0, i1⟩
 have e0_1 := (fr1 0 rfl).trans (by conv => lhs; whnf)
 have e2_1 : sg1 2 = U _ := (fr1 2 rfl).trans rfl
 refine CW.seq ?_
 refine SR ?_
 refine V (run_move e5_1) ?_
 refine V (run_lss rfl rfl) ?_
 refine RL.nil ?_
 refine CW.condP rfl (fun h3 => ?_) (fun h3 => ?_)
 ·refine CW.skip ?_
  refine CW.seq ?_
  refine CW.block ?_
  refine CW.seq ?_
  refine SR ?_
  refine V (aV (I 0) rfl) ?_
  refine RL.nil ?_
  refine CW.block ?_
  refine CW.loop (G := (Int)) (fun (k : Int) s' w' => (Fr [3, 6, 11, 12, 13, 14, 15, 16, 17, 18, 19, 20, 21, 22, 23, 24, 25] _ s') ∧ (Hp w w' _) ∧ (s' 3 = U (oflTo l i.toNat)) ∧ (s' 6 = I k) ∧ (0 ≤ k) ∧ (k ≤ l.length) ∧ (∀ j : Int, 0 ≤ j → j < k → l.getD j.toNat 0 ≠ i)) (fun (k : Int) => (l.length - k).toNat) (0) ⟨Fr.refl _ _, hH1, e3_1, rfl, (by omega), (by omega), fun j a b => absurd b (by omega)⟩ ?_
  rintro k sg4 w4 ⟨fr4, hH4, e3_4, e6_4, k0, k1, hf⟩
  have e0_4 := (fr4 0 rfl).trans e0_1
  have e2_4 := (fr4 2 rfl).trans e2_1
  have e4_4 := (fr4 4 rfl).trans e4_1
  have e5_4 := (fr4 5 rfl).trans e5_1
  have e7_4 : sg4 7 = I _ := (fr4 7 rfl).trans rfl
  have e8_4 : sg4 8 = B _ := (fr4 8 rfl).trans rfl
  refine CW.seq ?_
  refine SR ?_
  refine V (run_move e6_4) ?_
  refine V (run_move e0_4) ?_
  refine V (run_lenSl (hs.hp hH4) rfl underlying82 rfl) ?_
  refine V (run_lss rfl rfl) ?_
  refine RL.nil ?_
  refine CW.condP rfl (fun h6 => ?_) (fun h6 => ?_)
  ·refine CW.skip ?_
   refine CW.seq ?_
   refine CW.block ?_
   refine SR ?_
   refine V (run_move e0_4) ?_
   refine V (run_move e6_4) ?_
   refine V (run_indexAddrS (hs.hp hH4) underlying82 sizeOf3 rfl rfl (by omega)) ?_
   refine V (run_ld underlying3 rfl rfl ((hs.hp hH4).cell _ _ (map_at (by omega)))) ?_
   refine V (run_move e5_4) ?_
   refine V (run_eql rfl rfl) ?_
   refine RL.nil ?_
   refine CW.condP rfl (fun h8 => ?_) (fun h8 => ?_)
   ·refine SR ?_
    refine V (run_move e3_4) ?_
    refine V (run_move e4_4) ?_
    refine V (run_addU rfl rfl) ?_
    refine V (aV (U _) rfl) ?_
    refine RL.nil ?_
    refine CW.exit (id := 2) rfl ?_
    refine CW.region ?_
    refine V (run_move e4_4) ?_
    refine V (run_mulU rfl (b := 2#64) rfl) ?_
    refine V (aV (U _) rfl) ?_
    refine RL.nil ?_
    refine CW.region ?_
    refine V (run_move e5_4) ?_
    refine V (run_add rfl rfl (by omega)) ?_
    refine V (aV (I _) rfl) ?_
    refine RL.nil ?_
    refine ⟨i + 1, ?_, (((fr1.u1.u1.u1).t fr4 rfl)).u4.u4.u4.u4.u4, hH4, (congrArg U (oflTo_yesI i0 (by omega) k0 (by omega) ‹_›)), (congrArg U (by rw [shl_two, show (i + 1).toNat = i.toNat + 1 by omega])), (congrArg I (by first | rfl | omega)), ?_, ?_⟩
    ·((try dsimp only); omega)
    ·omega
    ·omega
   ·refine CW.skip ?_
    refine CW.region ?_
    refine V (run_move e6_4) ?_
    refine V (run_add rfl rfl (by omega)) ?_
    refine V (aV (I _) rfl) ?_
    refine RL.nil ?_
    refine ⟨k + 1, ?_, fr4.u4.u4.u4.u1, hH4, e3_4, (congrArg I (by first | rfl | omega)), ?_, ?_, ?_⟩
    ·((try dsimp only); omega)
    ·omega
    ·omega
    ·exact fun j a b => if e : j = k then e ▸ ‹¬ l.getD k.toNat 0 = i› else hf j a (by omega)
  ·refine CW.exit (id := 2) rfl ?_
   refine CW.region ?_
   refine V (run_move e4_4) ?_
   refine V (run_mulU rfl (b := 2#64) rfl) ?_
   refine V (aV (U _) rfl) ?_
   refine RL.nil ?_
   refine CW.region ?_
   refine V (run_move e5_4) ?_
   refine V (run_add rfl rfl (by omega)) ?_
   refine V (aV (I _) rfl) ?_
   refine RL.nil ?_
   refine ⟨i + 1, ?_, (((fr1.u1.u1.u1).t fr4 rfl)).u4.u4.u1.u1, hH4, (Eq.trans e3_4 (congrArg U (oflTo_noI i0 (fun j a b => hf j a (by omega))))), (congrArg U (by rw [shl_two, show (i + 1).toNat = i.toNat + 1 by omega])), (congrArg I (by first | rfl | omega)), ?_, ?_⟩
   ·((try dsimp only); omega)
   ·omega
   ·omega
 ·refine CW.exit (id := 0) rfl ?_
  refine SR ?_
  refine V (run_move e3_1) ?_
  refine V (aV (U _) rfl) ?_
  refine RL.nil ?_
  refine CW.ret ?_
  refine outP1 Tryz.results92 (congrArg U ?_) hH1.below
  (rw [show i.toNat = 64 by omega]; rfl)

theorem c_clearanceref01_List (s : BitVec 64) (w : World) : Calls Tryz.prog 129 #[U s] w (PureRow 3 1 (lst s).length ((lst s).map I) w) := by
 refine enter Tryz.func129 rfl Tryz.ntmps129 rfl ?_
 have hH := Hp.start w
 refine SR ?_
 refine V (aV (.slice none 0 0) rfl) ?_
 have hH1 := hH.nilRow 3 1
 refine RL.nil ?_
 refine SR ?_
 refine V (aV (.slice none 0 0) rfl) ?_
 have hH2 := hH1.nilRow 3 1
 refine RL.nil ?_
 refine CW.seq ?_
 refine SR ?_
 refine V (aV (I 0) rfl) ?_
 refine RL.nil ?_
 refine CW.block ?_
 refine CW.loop (G := (Int) × (List Int) × (Value)) (fun (⟨k, l, v3⟩ : (Int) × (List Int) × (Value)) s' w' => (Fr [0, 3, 4, 5, 6, 7, 8, 9, 10, 11, 12, 13, 14, 15, 16, 17] _ s') ∧ (Hp w w' (.row v3 3 1 (l.length) (l.map I) :: _)) ∧ (s' 0 = U (s >>> k.toNat)) ∧ (s' 3 = v3) ∧ (s' 4 = I k) ∧ (0 ≤ k) ∧ (k ≤ 64) ∧ (l = lstTo s k.toNat)) (fun (⟨k, l, v3⟩ : (Int) × (List Int) × (Value)) => (64 - k).toNat) ((0, [], (.slice none 0 0 : Value))) ⟨Fr.refl _ _, hH2, (congrArg U (by simp)), rfl, rfl, (by omega), (by omega), rfl⟩ ?_
 rintro ⟨k, l, v3⟩ sg3 w3 ⟨fr3, hH3, e0_3, e3_3, e4_3, h0, hk, hl⟩
 have e2_3 := (fr3 2 rfl).trans (by conv => lhs; whnf)
 refine CW.seq ?_
 refine SR ?_
 refine V (run_move e4_3) ?_
 refine V (run_lss rfl rfl) ?_
 refine RL.nil ?_
 refine CW.condP rfl (fun h5 => ?_) (fun h5 => ?_)
 ·refine CW.skip ?_
  refine CW.seq ?_
  refine CW.block ?_
  refine CW.seq ?_
  refine SR ?_
  refine V (run_move e0_3) ?_
  refine V (run_remU rfl (b := 2#64) rfl (by decide)) ?_
  refine V (run_eqlU rfl (b := 1#64) rfl) ?_
  refine RL.nil ?_
  refine CW.condP rfl (fun h7 => ?_) (fun h7 => ?_)
  ·refine CW.region ?_
   refine V (run_move e3_3) ?_
   refine V (run_move e4_3) ?_
   refine RL.new rfl hH3 (f := fun b => (.slice (some ⟨b, 0, none⟩) 1 1)) (run_mkL underlying82 rfl rfl (sz := 1) (vs := [I _]) rfl rfl (by decide) (by decide) rfl rfl) ?_
   intro b10 w8 hH9
   (try simp only [List.flatMap_cons, List.flatMap_nil, clI, clB, clS, clP, clL, clA, List.append_nil, List.cons_append, List.nil_append] at hH9)
   refine RL.app rfl hH9 (i := 1) rfl (hH9.slBlk (i := 0) (n := 1) (sz := 1) rfl rfl (by decide)) rfl rfl underlying82 rfl rfl (size := 1) (bytes := 8) rfl rfl rfl (by decide) (by simp [Value.oneCell']) (by have := lstTo_len s k.toNat; rw [← hl] at this; omega) (by have := lstTo_len s k.toNat; rw [← hl] at this; simp only [maxLen]; omega) ?_
   intro v11 w12 hH13
   simp only [z0, z1] at hH13
   refine V (run_assign (by conv => lhs; whnf)) ?_
   refine RL.nil ?_
   refine CW.region ?_
   refine V (run_move e0_3) ?_
   refine V (run_quoU rfl (b := 2#64) rfl (by decide)) ?_
   refine V (aV (U _) rfl) ?_
   refine RL.nil ?_
   refine CW.region ?_
   refine V (run_move e4_3) ?_
   refine V (run_add rfl rfl (by omega)) ?_
   refine V (aV (I _) rfl) ?_
   refine RL.nil ?_
   refine ⟨(k + 1, l ++ [k], v11), ?_, fr3.u4.u4.u4.u4, (Hp.conv (hH13.sub (sQ sR)) (by first | rfl | simp)), (congrArg U (by rw [half, show (k + 1).toNat = k.toNat + 1 by omega])), rfl, (congrArg I (by first | rfl | omega)), ?_, ?_, ?_⟩
   ·((try dsimp only); omega)
   ·omega
   ·omega
   ·rw [hl, lstTo_yes h0 ‹_›]
  ·refine CW.skip ?_
   refine CW.region ?_
   refine V (run_move e0_3) ?_
   refine V (run_quoU rfl (b := 2#64) rfl (by decide)) ?_
   refine V (aV (U _) rfl) ?_
   refine RL.nil ?_
   refine CW.region ?_
   refine V (run_move e4_3) ?_
   refine V (run_add rfl rfl (by omega)) ?_
   refine V (aV (I _) rfl) ?_
   refine RL.nil ?_
   refine ⟨(k + 1, l, v3), ?_, fr3.u4.u4.u1.u1.u1, (Hp.conv hH3 (by first | rfl | simp)), (congrArg U (by rw [half, show (k + 1).toNat = k.toNat + 1 by omega])), e3_3, (congrArg I (by first | rfl | omega)), ?_, ?_, ?_⟩
   ·((try dsimp only); omega)
   ·omega
   ·omega
   ·rw [hl, lstTo_no h0 ‹_›]
 ·refine CW.exit (id := 0) rfl ?_
  refine SR ?_
  refine V (run_move e3_3) ?_
  refine V (run_assign (by conv => lhs; whnf)) ?_
  refine RL.nil ?_
  refine CW.ret ?_
  exact outR Tryz.results129 rfl hH3 (i := 0) rfl (by rw [hl, lstTo_end ‹_› hk]) (by rw [hl, lstTo_end ‹_› hk])

theorem c_clearanceref01_Below (n : Int) (w : World) : Calls Tryz.prog 95 #[I n] w (Pure (U (below n)) w) := by
 refine enter Tryz.func95 rfl Tryz.ntmps95 rfl ?_
 have hH := Hp.start w
 refine SR ?_
 refine V (aV (U 0#64) rfl) ?_
 refine RL.nil ?_
 refine SR ?_
 refine V (aV (.slice none 0 0) rfl) ?_
 have hH1 := hH.nilRow 3 1
 refine RL.nil ?_
 refine CW.seq ?_
 refine SR ?_
 refine V (aV (I 0) rfl) ?_
 refine RL.nil ?_
 refine CW.block ?_
 refine CW.loop (G := (Int) × (List Int) × (Value)) (fun (⟨k, l, v3⟩ : (Int) × (List Int) × (Value)) s' w' => (Fr [3, 4, 5, 6, 7, 8, 9, 10, 11, 12, 13, 14, 15, 16, 17] _ s') ∧ (Hp w w' (.row v3 3 1 (l.length) (l.map I) :: _)) ∧ (s' 3 = v3) ∧ (s' 4 = I k) ∧ (0 ≤ k) ∧ (k ≤ 64) ∧ (k ≤ max n 0) ∧ (l = upto k)) (fun (⟨k, l, v3⟩ : (Int) × (List Int) × (Value)) => (64 - k).toNat) ((0, [], (.slice none 0 0 : Value))) ⟨Fr.refl _ _, hH1, rfl, rfl, (by omega), (by omega), (by omega), rfl⟩ ?_
 rintro ⟨k, l, v3⟩ sg2 w2 ⟨fr2, hH2, e3_2, e4_2, h0, hk, hn, hl⟩
 have e0_2 : sg2 0 = I _ := (fr2 0 rfl).trans rfl
 have e2_2 : sg2 2 = U _ := (fr2 2 rfl).trans rfl
 refine CW.seq ?_
 refine SR ?_
 refine V (run_move e4_2) ?_
 refine V (run_move e0_2) ?_
 refine V (run_lss rfl rfl) ?_
 refine V (mV (B _) rfl) ?_
 refine RL.splitP (dj := 8) rfl (fun h4 => ?_) (fun h4 => ?_)
 ·refine RL.gT rfl (bT h4) ?_
  refine V (run_move e4_2) ?_
  refine RL.gT rfl (bT h4) ?_
  refine V (run_lss rfl rfl) ?_
  refine V (run_pickT (bT h4) (v := B _) rfl) ?_
  refine RL.nil ?_
  refine CW.condP rfl (fun h6 => ?_) (fun h6 => ?_)
  ·refine CW.skip ?_
   refine CW.seq ?_
   refine CW.block ?_
   refine CW.region ?_
   refine V (run_move e3_2) ?_
   refine V (run_move e4_2) ?_
   refine RL.new rfl hH2 (f := fun b => (.slice (some ⟨b, 0, none⟩) 1 1)) (run_mkL underlying82 rfl rfl (sz := 1) (vs := [I _]) rfl rfl (by decide) (by decide) rfl rfl) ?_
   intro b9 w7 hH8
   (try simp only [List.flatMap_cons, List.flatMap_nil, clI, clB, clS, clP, clL, clA, List.append_nil, List.cons_append, List.nil_append] at hH8)
   refine RL.app rfl hH8 (i := 1) rfl (hH8.slBlk (i := 0) (n := 1) (sz := 1) rfl rfl (by decide)) rfl rfl underlying82 rfl rfl (size := 1) (bytes := 8) rfl rfl rfl (by decide) (by simp [Value.oneCell']) (by have := @upto_len k; rw [← hl] at this; omega) (by have := @upto_len k; rw [← hl] at this; simp only [maxLen]; omega) ?_
   intro v10 w11 hH12
   simp only [z0, z1] at hH12
   refine V (run_assign (by conv => lhs; whnf)) ?_
   refine RL.nil ?_
   refine CW.region ?_
   refine V (run_move e4_2) ?_
   refine V (run_add rfl rfl (by omega)) ?_
   refine V (aV (I _) rfl) ?_
   refine RL.nil ?_
   refine ⟨(k + 1, l ++ [k], v10), ?_, fr2.u4.u4.u4.u1.u1.u1, (Hp.conv (hH12.sub (sQ sR)) (by first | rfl | simp)), rfl, (congrArg I (by first | rfl | omega)), ?_, ?_, ?_, ?_⟩
   ·((try dsimp only); omega)
   ·omega
   ·omega
   ·omega
   ·rw [hl, upto_succ h0]
  ·refine CW.exit (id := 0) rfl ?_
   refine SR ?_
   refine V (run_move e3_2) ?_
   refine RL.callP rfl hH2 (c_clearanceref01_Of _ _  _ (hH2.sl (i := 0) rfl)) (run_call1 call92 rfl) ?_
   intro w13 hH14
   refine V (aV (U _) rfl) ?_
   refine RL.nil ?_
   refine CW.ret ?_
   refine outP1 Tryz.results95 (congrArg U ?_) hH14.below
   exact below_eq_ofl fun i a b => by rw [hl, mem_upto]; omega
 ·refine RL.gF rfl rfl (bF h4) rfl ?_
  refine RL.gF rfl rfl (bF h4) rfl ?_
  refine V (run_pickF (bF h4) (v := B false) rfl) ?_
  refine RL.nil ?_
  refine CW.condF rfl ?_
  refine CW.exit (id := 0) rfl ?_
  refine SR ?_
  refine V (run_move e3_2) ?_
  refine RL.callP rfl hH2 (c_clearanceref01_Of _ _  _ (hH2.sl (i := 0) rfl)) (run_call1 call92 rfl) ?_
  intro w15 hH16
  refine V (aV (U _) rfl) ?_
  refine RL.nil ?_
  refine CW.ret ?_
  refine outP1 Tryz.results95 (congrArg U ?_) hH16.below
  exact below_eq_ofl fun i a b => by rw [hl, mem_upto]; omega

theorem c_rung_Right (n : Int) (s : BitVec 64) (w : World) : Calls Tryz.prog 78 #[I n, U s] w (Pure (B (level n s).2) w) := by
 refine enter Tryz.func78 rfl Tryz.ntmps78 rfl ?_
 have hH := Hp.start w
 refine SR ?_
 refine V (aV (B false) rfl) ?_
 refine RL.nil ?_
 refine SR ?_
 refine V (mV (I _) rfl) ?_
 refine V (mV (U _) rfl) ?_
 refine RL.callP rfl hH (c_rung_Level _ _  _) (run_call2 call59 rfl rfl) ?_
 intro w1 hH2
 refine V (run_move (by conv => lhs; whnf)) ?_
 refine V (run_extract rfl (v := I _) rfl) ?_
 refine V (run_extract rfl (v := B _) rfl) ?_
 refine V (aV (I _) rfl) ?_
 refine V (aV (B _) rfl) ?_
 refine RL.nil ?_
 refine SR ?_
 refine V (mV (B _) rfl) ?_
 refine V (aV (B _) rfl) ?_
 refine RL.nil ?_
 refine CW.ret ?_
 refine outP1 Tryz.results78 (congrArg B ?_) hH2.below
 rfl

theorem c_clearanceref04_Word (n k : Int) (w : World) : Calls Tryz.prog 51 #[I n, I k] w (Pure (.tuple #[U (wordv n k).1, B (wordv n k).2]) w) := by
 refine enter Tryz.func51 rfl Tryz.ntmps51 rfl ?_
 have hH := Hp.start w
 refine SR ?_
 refine V (aV (U 0#64) rfl) ?_
 refine V (aV (B false) rfl) ?_
 refine RL.nil ?_
 refine CW.seq ?_
 refine SR ?_
 refine V (mV (I _) rfl) ?_
 refine V (run_lss rfl rfl) ?_
 refine V (mV (B _) rfl) ?_
 refine RL.splitP (dj := 8) rfl (fun h2 => ?_) (fun h2 => ?_)
 ·refine RL.gF rfl rfl (bT h2) rfl ?_
  refine RL.gF rfl rfl (bT h2) rfl ?_
  refine V (run_pickT (bT h2) (v := B true) rfl) ?_
  refine V (mV (B _) rfl) ?_
  refine RL.gF rfl rfl rfl rfl ?_
  refine RL.gF rfl rfl rfl rfl ?_
  refine V (run_pickT rfl (v := B true) rfl) ?_
  refine V (mV (B _) rfl) ?_
  refine RL.gF rfl rfl rfl rfl ?_
  refine RL.gF rfl rfl rfl rfl ?_
  refine RL.gF rfl rfl rfl rfl ?_
  refine V (run_pickT rfl (v := B true) rfl) ?_
  refine RL.nil ?_
  refine CW.condT rfl ?_
  refine SR ?_
  refine V (aV (U 0#64) rfl) ?_
  refine V (aV (B false) rfl) ?_
  refine RL.nil ?_
  refine CW.ret ?_
  refine outP2 Tryz.results51 (congrArg U ?_) (congrArg B ?_) hH.below <;> rw [wordv_no (by omega)]
 ·refine RL.gT rfl (bF h2) ?_
  refine V (mV (I _) rfl) ?_
  refine RL.gT rfl (bF h2) ?_
  refine V (run_gtr rfl rfl) ?_
  refine V (run_pickF (bF h2) (v := B _) rfl) ?_
  refine V (mV (B _) rfl) ?_
  refine RL.splitP (dj := 12) rfl (fun h4 => ?_) (fun h4 => ?_)
  ·refine RL.gF rfl rfl (bT h4) rfl ?_
   refine RL.gF rfl rfl (bT h4) rfl ?_
   refine V (run_pickT (bT h4) (v := B true) rfl) ?_
   refine V (mV (B _) rfl) ?_
   refine RL.gF rfl rfl rfl rfl ?_
   refine RL.gF rfl rfl rfl rfl ?_
   refine RL.gF rfl rfl rfl rfl ?_
   refine V (run_pickT rfl (v := B true) rfl) ?_
   refine RL.nil ?_
   refine CW.condT rfl ?_
   refine SR ?_
   refine V (aV (U 0#64) rfl) ?_
   refine V (aV (B false) rfl) ?_
   refine RL.nil ?_
   refine CW.ret ?_
   refine outP2 Tryz.results51 (congrArg U ?_) (congrArg B ?_) hH.below <;> rw [wordv_no (by omega)]
  ·refine RL.gT rfl (bF h4) ?_
   refine V (mV (I _) rfl) ?_
   refine RL.gT rfl (bF h4) ?_
   refine V (run_lss rfl rfl) ?_
   refine V (run_pickF (bF h4) (v := B _) rfl) ?_
   refine V (mV (B _) rfl) ?_
   refine RL.splitP (dj := 16) rfl (fun h6 => ?_) (fun h6 => ?_)
   ·refine RL.gF rfl rfl (bT h6) rfl ?_
    refine RL.gF rfl rfl (bT h6) rfl ?_
    refine RL.gF rfl rfl (bT h6) rfl ?_
    refine V (run_pickT (bT h6) (v := B true) rfl) ?_
    refine RL.nil ?_
    refine CW.condT rfl ?_
    refine SR ?_
    refine V (aV (U 0#64) rfl) ?_
    refine V (aV (B false) rfl) ?_
    refine RL.nil ?_
    refine CW.ret ?_
    refine outP2 Tryz.results51 (congrArg U ?_) (congrArg B ?_) hH.below <;> rw [wordv_no (by omega)]
   ·refine RL.gT rfl (bF h6) ?_
    refine V (mV (I _) rfl) ?_
    refine RL.gT rfl (bF h6) ?_
    refine V (mV (I _) rfl) ?_
    refine RL.gT rfl (bF h6) ?_
    refine V (run_geq rfl rfl) ?_
    refine V (run_pickF (bF h6) (v := B _) rfl) ?_
    refine RL.nil ?_
    refine CW.condP rfl (fun h8 => ?_) (fun h8 => ?_)
    ·refine SR ?_
     refine V (aV (U 0#64) rfl) ?_
     refine V (aV (B false) rfl) ?_
     refine RL.nil ?_
     refine CW.ret ?_
     refine outP2 Tryz.results51 (congrArg U ?_) (congrArg B ?_) hH.below <;> rw [wordv_no (by omega)]
    ·refine CW.skip ?_
     refine SR ?_
     refine V (mV (I _) rfl) ?_
     refine RL.callP rfl hH (c_clearanceref01_Below _  _) (run_call1 call95 rfl) ?_
     intro w9 hH10
     refine V (aV (U _) rfl) ?_
     refine V (aV (B true) rfl) ?_
     refine RL.nil ?_
     refine CW.ret ?_
     refine outP2 Tryz.results51 (congrArg U ?_) (congrArg B ?_) hH10.below <;> rw [wordv_yes (by omega)]

theorem c_clearanceref04_Level (n : Int) (s : BitVec 64) (w : World) : Calls Tryz.prog 65 #[I n, U s] w (Pure (.tuple #[I (level n s).1, B (level n s).2]) w) := by
 refine enter Tryz.func65 rfl Tryz.ntmps65 rfl ?_
 have hH := Hp.start w
 refine SR ?_
 refine V (aV (I 0) rfl) ?_
 refine V (aV (B false) rfl) ?_
 refine RL.nil ?_
 refine CW.seq ?_
 refine SR ?_
 refine V (aV (I 0) rfl) ?_
 refine RL.nil ?_
 refine CW.block ?_
 refine CW.loop (G := (Int)) (fun (k : Int) s' w' => (Fr [4, 5, 6, 7, 8, 9, 10, 11, 12, 13, 14, 15, 16, 17, 18, 19, 20, 21, 22, 23, 24, 25, 26, 27, 28, 29, 30] _ s') ∧ (Hp w w' _) ∧ (s' 6 = I k) ∧ (0 ≤ k) ∧ (k ≤ n ∨ k = 0) ∧ (k ≤ 64) ∧ (n ≤ 64 → ∀ j : Int, 0 ≤ j → j < k → s ≠ below j)) (fun (k : Int) => (64 - k).toNat) (0) ⟨Fr.refl _ _, hH, rfl, (by omega), (by omega), (by omega), fun _ j a b => absurd b (by omega)⟩ ?_
 rintro k sg1 w1 ⟨fr1, hH1, e6_1, h0, hk, h6, hf⟩
 have e0_1 : sg1 0 = I _ := (fr1 0 rfl).trans rfl
 have e1_1 : sg1 1 = U _ := (fr1 1 rfl).trans rfl
 refine CW.seq ?_
 refine SR ?_
 refine V (run_move e6_1) ?_
 refine V (run_move e0_1) ?_
 refine V (run_lss rfl rfl) ?_
 refine V (mV (B _) rfl) ?_
 refine RL.splitP (dj := 12) rfl (fun h3 => ?_) (fun h3 => ?_)
 ·refine RL.gT rfl (bT h3) ?_
  refine V (run_move e6_1) ?_
  refine RL.gT rfl (bT h3) ?_
  refine V (run_lss rfl rfl) ?_
  refine V (run_pickT (bT h3) (v := B _) rfl) ?_
  refine RL.nil ?_
  refine CW.condP rfl (fun h5 => ?_) (fun h5 => ?_)
  ·refine CW.skip ?_
   refine CW.seq ?_
   refine CW.block ?_
   refine SR ?_
   refine V (run_move e0_1) ?_
   refine V (run_move e6_1) ?_
   refine RL.callP rfl hH1 (c_clearanceref04_Word _ _  _) (run_call2 call51 rfl rfl) ?_
   intro w6 hH7
   refine V (run_move (by conv => lhs; whnf)) ?_
   refine V (run_extract rfl (v := U _) rfl) ?_
   refine V (run_extract rfl (v := B _) rfl) ?_
   refine V (aV (U _) rfl) ?_
   refine V (aV (B _) rfl) ?_
   refine RL.nil ?_
   refine SR ?_
   refine V (mV (B _) rfl) ?_
   refine V (mV (B _) rfl) ?_
   refine RL.split (dj := 25) rfl (fun h9 => ?_) (fun h9 => ?_)
   ·refine RL.gT rfl (bR (c := true) h9) ?_
    refine V (mV (U _) rfl) ?_
    refine RL.gT rfl (bR (c := true) h9) ?_
    refine V (run_move e1_1) ?_
    refine RL.gT rfl (bR (c := true) h9) ?_
    refine V (run_eqlU rfl rfl) ?_
    refine V (run_pickT (bR (c := true) h9) (v := B _) rfl) ?_
    refine RL.nil ?_
    refine CW.condP rfl (fun h11 => ?_) (fun h11 => ?_)
    ·refine SR ?_
     refine V (run_move e6_1) ?_
     refine V (aV (I _) rfl) ?_
     refine V (aV (B true) rfl) ?_
     refine RL.nil ?_
     refine CW.ret ?_
     refine outP2 Tryz.results65 (congrArg I ?_) (congrArg B ?_) hH7.below <;> rw [level_ref h0 ‹_› hf ‹_›]
    ·refine CW.skip ?_
     refine CW.region ?_
     refine V (run_move e6_1) ?_
     refine V (run_add rfl rfl (by omega)) ?_
     refine V (aV (I _) rfl) ?_
     refine RL.nil ?_
     refine ⟨k + 1, ?_, fr1.u4.u4.u4.u4.u4.u4, hH7, (congrArg I (by first | rfl | omega)), ?_, ?_, ?_, ?_⟩
     ·((try dsimp only); omega)
     ·omega
     ·omega
     ·omega
     ·exact level_step1 h0 ‹_› ‹_› hf
   ·refine RL.gF rfl rfl (bR (c := false) h9) rfl ?_
    refine RL.gF rfl rfl (bR (c := false) h9) rfl ?_
    refine RL.gF rfl rfl (bR (c := false) h9) rfl ?_
    refine V (run_pickF (bR (c := false) h9) (v := B false) rfl) ?_
    refine RL.nil ?_
    refine CW.condF rfl ?_
    refine CW.skip ?_
    refine CW.region ?_
    refine V (run_move e6_1) ?_
    refine V (run_add rfl rfl (by omega)) ?_
    refine V (aV (I _) rfl) ?_
    refine RL.nil ?_
    refine ⟨k + 1, ?_, fr1.u4.u4.u4.u4.u4.u4, hH7, (congrArg I (by first | rfl | omega)), ?_, ?_, ?_, ?_⟩
    ·((try dsimp only); omega)
    ·omega
    ·omega
    ·omega
    ·exact level_step2 h0 ‹_› hf ‹_›
  ·refine CW.exit (id := 0) rfl ?_
   refine SR ?_
   refine V (aV (I 0) rfl) ?_
   refine V (aV (B false) rfl) ?_
   refine RL.nil ?_
   refine CW.ret ?_
   refine outP2 Tryz.results65 (congrArg I ?_) (congrArg B ?_) hH1.below <;> rw [level_refnone h0 hk h6 hf (by omega)]
 ·refine RL.gF rfl rfl (bF h3) rfl ?_
  refine RL.gF rfl rfl (bF h3) rfl ?_
  refine V (run_pickF (bF h3) (v := B false) rfl) ?_
  refine RL.nil ?_
  refine CW.condF rfl ?_
  refine CW.exit (id := 0) rfl ?_
  refine SR ?_
  refine V (aV (I 0) rfl) ?_
  refine V (aV (B false) rfl) ?_
  refine RL.nil ?_
  refine CW.ret ?_
  refine outP2 Tryz.results65 (congrArg I ?_) (congrArg B ?_) hH1.below <;> rw [level_refnone h0 hk h6 hf (by omega)]

theorem c_bits_TrailingZeros64 (s : BitVec 64) (w : World) (hT : Tab w) : Calls Tryz.prog 96 #[U s] w (Pure (I (tz s)) w) := by
 refine enter Tryz.func96 rfl Tryz.ntmps96 rfl ?_
 have hH := Hp.start w
 refine SR ?_
 refine V (aV (I 0) rfl) ?_
 refine RL.nil ?_
 refine CW.seq ?_
 refine SR ?_
 refine V (mV (U _) rfl) ?_
 refine V (run_eqlU rfl (b := 0#64) rfl) ?_
 refine RL.nil ?_
 refine CW.condP rfl (fun h2 => ?_) (fun h2 => ?_)
 ·refine SR ?_
  refine V (aV (I 64) rfl) ?_
  refine RL.nil ?_
  refine CW.ret ?_
  refine outP1 Tryz.results96 (congrArg I ?_) hH.below
  rw [‹s = 0#64›]; rfl
 ·refine CW.skip ?_
  refine SR ?_
  refine V (mV (U _) rfl) ?_
  refine V (mV (U _) rfl) ?_
  refine V (run_negU rfl) ?_
  refine V (run_andU rfl rfl) ?_
  refine V (run_mulU rfl (b := 285870213051353865#64) rfl) ?_
  refine V (run_shrU rfl (b := 58#64) rfl) ?_
  refine V (run_indexAddrA underlying116 sizeOf5 rfl rfl (by exact tz_idx _)) ?_
  refine V (run_ld underlying5 rfl rfl (hT.at _)) ?_
  refine V (run_convUI underlying5 underlying3 rfl (conv_bd (tztab_bd _))) ?_
  refine V (aV (I _) rfl) ?_
  refine RL.nil ?_
  refine CW.ret ?_
  refine outP1 Tryz.results96 (congrArg I ?_) hH.below
  exact tz_ne ‹_›

theorem c_mask_Each (f : FuncId) (cap : Array Value) (Inv Stop : List Int → World → Prop) (s : BitVec 64) (w : World) (hf : ∀ args w, (callFunc f args).run Tryz.prog w = .ok (.enter f args) w) (hm : ∀ l w w', Inv l w → Below w.heap.size w w' → Inv l w') (hT : ∀ l w, Inv l w → Tab w) (go : ∀ l i r w, lst s = l ++ i :: r → Inv l w → Calls Tryz.prog f (#[I i] ++ cap) w (Ret fun u w' => ∃ c : Bool, u = B c ∧ (c = true → Inv (l ++ [i]) w') ∧ (c = false → Stop (l ++ [i]) w'))) (h0 : Inv [] w) : Calls Tryz.prog 53 #[U s, .func (.func f) #[] cap] w (Ret fun u w' => u = .tuple #[] ∧ (Inv (lst s) w' ∨ ∃ l i r, lst s = l ++ i :: r ∧ Stop (l ++ [i]) w')) := by
 refine enter Tryz.func53 rfl Tryz.ntmps53 rfl ?_
 have hH := Hp.start w
 refine CW.block ?_
 refine CW.loop (G := (BitVec 64) × (List Int)) (fun (⟨s1, l⟩ : (BitVec 64) × (List Int)) s' w' => (Fr [0, 4, 5, 6, 7, 8, 9, 10, 11, 12, 13, 14] _ s') ∧ (Inv l w') ∧ (s' 0 = U s1) ∧ (lst s = l ++ lst s1)) (fun (⟨s1, l⟩ : (BitVec 64) × (List Int)) => (lst s1).length) ((s, [])) ⟨Fr.refl _ _, h0, rfl, (by simp)⟩ ?_
 rintro ⟨s1, l⟩ sg1 w1 ⟨fr1, hH1, e0_1, hl⟩
 have hI1 := hH1
 clear hH1
 have hH1 := Hp.start w1
 have e1_1 : sg1 1 = .func _ _ _ := (fr1 1 rfl).trans rfl
 refine CW.seq ?_
 refine SR ?_
 refine V (run_move e0_1) ?_
 refine V (run_neqU rfl (b := 0#64) rfl) ?_
 refine RL.nil ?_
 refine CW.condP rfl (fun h3 => ?_) (fun h3 => ?_)
 ·refine CW.skip ?_
  refine CW.block ?_
  refine CW.seq ?_
  refine SR ?_
  refine V (run_move e1_1) ?_
  refine V (run_move e0_1) ?_
  refine RL.callP rfl hH1 (c_bits_TrailingZeros64 _ _ (hT _ _ hI1)) (run_call1 call96 rfl) ?_
  intro w4 hH5
  have hI := hm _ _ _ hI1 hH5.below
  refine RL.call rfl (run_callV1 hf rfl (v1 := I (tz s1)) rfl) (go l (tz s1) (lst (s1 &&& (s1 - 1#64))) _ (by rw [hl, lst_tz ‹_›]) hI) ?_
  rintro u8 w6 ⟨c, rfl, hJ1, hJ2⟩
  have hH7 := Hp.start w6
  refine V (run_not rfl) ?_
  refine RL.nil ?_
  refine CW.cond rfl (fun h11 => ?_) (fun h11 => ?_)
  ·refine CW.ret ?_
   exact out0 Tryz.results53 ⟨rfl, .inr ⟨l, tz s1, lst (s1 &&& (s1 - 1#64)), by rw [hl, lst_tz ‹_›], hJ2 (by simpa using ‹(!c) = true›)⟩⟩
  ·refine CW.skip ?_
   refine CW.region ?_
   refine V (run_move e0_1) ?_
   refine V (run_move e0_1) ?_
   refine V (run_subU rfl (b := 1#64) rfl) ?_
   refine V (run_andU rfl rfl) ?_
   refine V (aV (U _) rfl) ?_
   refine RL.nil ?_
   refine ⟨(s1 &&& (s1 - 1#64), l ++ [tz s1]), ?_, fr1.u4.u4.u4, (hJ1 (by simpa using ‹(!c) = false›)), rfl, ?_⟩
   ·exact lst_clear_lt ‹_›
   ·rw [hl, lst_tz ‹_›]; simp
 ·refine CW.exit (id := 0) rfl ?_
  have hn : lst s1 = [] := lst_eq_nil.2 (by simpa using ‹¬ s1 ≠ 0#64›)
  exact out0 Tryz.results53 ⟨rfl, .inl (by rw [hl, hn, List.append_nil]; assumption)⟩

theorem c_mask_List_1 (W0 : World) (b : Nat) (v : Value) (l : List Int) (i : Int) (w : World) (hH : Hp W0 w [.row v 3 1 l.length (l.map I), .blk b (.cells #[v] 82 (0, 0))]) (hlen : l.length ≤ 64) : Calls Tryz.prog 97 #[I i, .pointer (some ⟨b, 0, none⟩)] w (Ret fun u w' => u = B true ∧ ∃ v', Hp W0 w' [.row v' 3 1 (l ++ [i]).length ((l ++ [i]).map I), .blk b (.cells #[v'] 82 (0, 0))]) := by
 refine enter Tryz.func97 rfl Tryz.ntmps97 rfl ?_
 refine SR ?_
 refine V (aV (B false) rfl) ?_
 refine RL.nil ?_
 refine SR ?_
 refine V (run_ld underlying82 rfl rfl (hH.cell (i := 1) rfl rfl)) ?_
 refine V (mV (I _) rfl) ?_
 refine RL.new rfl hH (f := fun b => (.slice (some ⟨b, 0, none⟩) 1 1)) (run_mkL underlying82 rfl rfl (sz := 1) (vs := [I _]) rfl rfl (by decide) (by decide) rfl rfl) ?_
 intro b3 w1 hH2
 (try simp only [List.flatMap_cons, List.flatMap_nil, clI, clB, clS, clP, clL, clA, List.append_nil, List.cons_append, List.nil_append] at hH2)
 refine RL.app rfl hH2 (i := 1) rfl (hH2.slBlk (i := 0) (n := 1) (sz := 1) rfl rfl (by decide)) rfl rfl underlying82 rfl rfl (size := 1) (bytes := 8) rfl rfl rfl (by decide) (by simp [Value.oneCell']) (by omega) (by simp only [maxLen]; omega) ?_
 intro v4 w5 hH6
 simp only [z0, z1] at hH6
 refine RL.set hH6 (i := 2) rfl (run_st rfl rfl (by conv => lhs; whnf) (row_cells (hH6.get (i := 1) rfl)).1 (row_cells (hH6.get (i := 1) rfl)).2 (hH6.blk (i := 2) rfl) (by first | decide | simp)) ?_
 intro w7 hH8
 simp only [z0, z1] at hH8
 refine RL.nil ?_
 refine SR ?_
 refine V (aV (B true) rfl) ?_
 refine RL.nil ?_
 refine CW.ret ?_
 exact out1 Tryz.results97 rfl ⟨rfl, (v4 : Value), Hp.conv hH8.tail (by simp)⟩

theorem c_mask_List (s : BitVec 64) (w : World) (hT : Tab w) : Calls Tryz.prog 55 #[U s] w (PureRow 3 1 (lst s).length ((lst s).map I) w) := by
 refine enter Tryz.func55 rfl Tryz.ntmps55 rfl ?_
 have hH := Hp.start w
 refine SR ?_
 refine V (aV (.slice none 0 0) rfl) ?_
 refine RL.nil ?_
 refine SR ?_
 refine RL.new rfl hH (f := fun b => (.pointer (some ⟨b, 0, none⟩))) (run_alloc Tryz.zeroValue82) ?_
 intro b3 w1 hH2
 have hH4 := hH2.nilRow 3 1
 refine RL.nil ?_
 refine SR ?_
 refine V (mV (U _) rfl) ?_
 refine V (run_mkF1 (by conv => lhs; whnf)) ?_
 refine RL.call rfl (run_call2 call53 (v1 := U s) rfl (v2 := .func (.func 97) #[] #[.pointer (some ⟨b3, 0, none⟩)]) rfl) (c_mask_Each 97 _ (fun l w' => ∃ v, Hp w w' [.row v 3 1 l.length (l.map I), .blk b3 (.cells #[v] 82 (0, 0))]) (fun _ _ => False) s _ call97 (fun l w' w'' h hb => h.imp fun v h => h.call hb) (fun l w' h => h.elim fun v h => hT.hp h) (fun l i r w' he h => h.elim fun v h => by
   have hl64 : l.length ≤ 64 := by have := lst_len s; rw [he] at this; simp at this; omega
   have hc := c_mask_List_1 w b3 v l i w' h hl64
   refine Ret.calls hc ?_
   intro u w2 hq
   exact ⟨true, hq.1, fun _ => hq.2, fun h => by cases h⟩) ⟨.slice none 0 0, hH4⟩) ?_
 rintro u w5 ⟨rfl, hor⟩
 obtain ⟨v7, hH6⟩ := hor.resolve_right (fun ⟨_, _, _, _, h⟩ => h)
 refine RL.nil ?_
 refine SR ?_
 refine V (run_ld underlying82 rfl rfl (hH6.cell (i := 1) rfl rfl)) ?_
 refine V (run_assign (by conv => lhs; whnf)) ?_
 refine RL.nil ?_
 refine CW.ret ?_
 exact outR Tryz.results55 rfl hH6 (i := 0) rfl (rfl) (rfl)

theorem c_clearanceref01_Sub (a b : BitVec 64) (w : World) : Calls Tryz.prog 102 #[U a, U b] w (Pure (B (subB a b)) w) := by
 have hl := lst_len a
 refine enter Tryz.func102 rfl Tryz.ntmps102 rfl ?_
 have hH := Hp.start w
 refine SR ?_
 refine V (aV (B false) rfl) ?_
 refine RL.nil ?_
 refine SR ?_
 refine V (mV (U _) rfl) ?_
 refine RL.callR rfl hH (c_clearanceref01_List _  _) (run_call1 call129 rfl) ?_
 intro v3 w1 hH2
 refine V (run_assign (by conv => lhs; whnf)) ?_
 refine RL.nil ?_
 refine CW.seq ?_
 refine SR ?_
 refine V (aV (I 0) rfl) ?_
 refine RL.nil ?_
 refine CW.block ?_
 refine CW.loop (G := (Int)) (fun (k : Int) s' w' => (Fr [4, 6, 9, 10, 11, 12, 13, 14, 15, 16, 17, 18, 19, 20, 21] _ s') ∧ (Hp w w' _) ∧ (s' 6 = I k) ∧ (0 ≤ k) ∧ (k ≤ (lst a).length) ∧ (∀ j : Int, 0 ≤ j → j < k → hasB b ((lst a).getD j.toNat 0) = true)) (fun (k : Int) => ((lst a).length - k).toNat) (0) ⟨Fr.refl _ _, hH2, rfl, (by omega), (by omega), fun j a b => absurd b (by omega)⟩ ?_
 rintro k sg4 w4 ⟨fr4, hH4, e6_4, h0, hk, hf⟩
 have e1_4 : sg4 1 = U _ := (fr4 1 rfl).trans rfl
 have e5_4 := (fr4 5 rfl).trans (by conv => lhs; whnf)
 refine CW.seq ?_
 refine SR ?_
 refine V (run_move e6_4) ?_
 refine V (run_move e5_4) ?_
 refine V (run_lenSl (hH4.sl (i := 0) rfl) rfl underlying82 rfl) ?_
 refine V (run_lss rfl rfl) ?_
 refine RL.nil ?_
 refine CW.condP rfl (fun h6 => ?_) (fun h6 => ?_)
 ·refine CW.skip ?_
  refine CW.seq ?_
  refine CW.block ?_
  refine SR ?_
  refine V (run_move e1_4) ?_
  refine V (run_move e5_4) ?_
  refine V (run_move e6_4) ?_
  refine V (run_indexAddrS (hH4.sl (i := 0) rfl) underlying82 sizeOf3 rfl rfl (by omega)) ?_
  refine V (run_ld underlying3 rfl rfl ((hH4.sl (i := 0) rfl).cell _ _ (map_at (by omega)))) ?_
  refine RL.callP rfl hH4 (c_clearanceref01_Has _ _  _) (run_call2 call62 rfl rfl) ?_
  intro w7 hH8
  refine V (run_not rfl) ?_
  refine RL.nil ?_
  refine CW.cond rfl (fun h11 => ?_) (fun h11 => ?_)
  ·refine SR ?_
   refine V (aV (B false) rfl) ?_
   refine RL.nil ?_
   refine CW.ret ?_
   refine outP1 Tryz.results102 (congrArg B ?_) hH8.below
   (exact (subB_no h0 ‹_› ‹_›).symm)
  ·refine CW.skip ?_
   refine CW.region ?_
   refine V (run_move e6_4) ?_
   refine V (run_add rfl rfl (by omega)) ?_
   refine V (aV (I _) rfl) ?_
   refine RL.nil ?_
   refine ⟨k + 1, ?_, fr4.u4.u4.u4.u1.u1, hH8, (congrArg I (by first | rfl | omega)), ?_, ?_, ?_⟩
   ·((try dsimp only); omega)
   ·omega
   ·omega
   ·exact fun j x y => if e : j = k then e ▸ (by simpa using ‹(!hasB b ((lst a).getD k.toNat 0)) = false›) else hf j x (by omega)
 ·refine CW.exit (id := 0) rfl ?_
  refine SR ?_
  refine V (aV (B true) rfl) ?_
  refine RL.nil ?_
  refine CW.ret ?_
  refine outP1 Tryz.results102 (congrArg B ?_) hH4.below
  (exact (subB_yes fun j x y => hf j x (by omega)).symm)

theorem c_clearanceref03_Points (r : Rl) (w : World) : Calls Tryz.prog 73 #[.agg (relC r)] w (Pure (I (pts r)) w) := by
 refine enter Tryz.func73 rfl Tryz.ntmps73 rfl ?_
 have hH := Hp.start w
 refine SR ?_
 refine RL.new rfl hH (f := fun b => (.pointer (some ⟨b, 0, none⟩))) (run_box (v := .agg _) rfl) ?_
 intro b3 w1 hH2
 refine V (aV (I 0) rfl) ?_
 refine RL.nil ?_
 refine CW.seq ?_
 refine SR ?_
 refine V (fA underlying48 0 rfl sizeOf3 rfl) ?_
 refine V (run_ld underlying3 rfl rfl (hH2.cell (i := 0) rfl (relC_N _))) ?_
 refine V (run_lss rfl rfl) ?_
 refine RL.nil ?_
 refine CW.condP rfl (fun h5 => ?_) (fun h5 => ?_)
 ·refine SR ?_
  refine V (aV (I 0) rfl) ?_
  refine RL.nil ?_
  refine CW.ret ?_
  refine outP1 Tryz.results73 (congrArg I ?_) hH2.below
  (unfold pts; omega)
 ·refine CW.skip ?_
  refine CW.seq ?_
  refine SR ?_
  refine V (fA underlying48 0 rfl sizeOf3 rfl) ?_
  refine V (run_ld underlying3 rfl rfl (hH2.cell (i := 0) rfl (relC_N _))) ?_
  refine V (run_gtr rfl rfl) ?_
  refine RL.nil ?_
  refine CW.condP rfl (fun h7 => ?_) (fun h7 => ?_)
  ·refine SR ?_
   refine V (aV (I 64) rfl) ?_
   refine RL.nil ?_
   refine CW.ret ?_
   refine outP1 Tryz.results73 (congrArg I ?_) hH2.below
   (unfold pts; omega)
  ·refine CW.skip ?_
   refine SR ?_
   refine V (fA underlying48 0 rfl sizeOf3 rfl) ?_
   refine V (run_ld underlying3 rfl rfl (hH2.cell (i := 0) rfl (relC_N _))) ?_
   refine V (aV (I _) rfl) ?_
   refine RL.nil ?_
   refine CW.ret ?_
   refine outP1 Tryz.results73 (congrArg I ?_) hH2.below
   (unfold pts; omega)

theorem c_relate_points (r : Rl) (w : World) : Calls Tryz.prog 128 #[.agg (relC r)] w (Pure (I (pts r)) w) := by
 refine enter Tryz.func128 rfl Tryz.ntmps128 rfl ?_
 have hH := Hp.start w
 refine SR ?_
 refine RL.new rfl hH (f := fun b => (.pointer (some ⟨b, 0, none⟩))) (run_box (v := .agg _) rfl) ?_
 intro b3 w1 hH2
 refine V (aV (I 0) rfl) ?_
 refine RL.nil ?_
 refine SR ?_
 refine V (fA underlying48 0 rfl sizeOf3 rfl) ?_
 refine V (run_ld underlying3 rfl rfl (hH2.cell (i := 0) rfl (relC_N _))) ?_
 refine V (run_minI rfl rfl) ?_
 refine V (run_maxI rfl rfl) ?_
 refine V (aV (I _) rfl) ?_
 refine RL.nil ?_
 refine CW.ret ?_
 refine outP1 Tryz.results128 (congrArg I ?_) hH2.below
 rfl

theorem c_clearanceref03_Has (r : Rl) (i j : Int) (w : World) : Calls Tryz.prog 94 #[.agg (relC r), I i, I j] w (Pure (B (hasR r i j)) w) := by
 have hp := pts_bd r
 refine enter Tryz.func94 rfl Tryz.ntmps94 rfl ?_
 have hH := Hp.start w
 refine SR ?_
 refine RL.new rfl hH (f := fun b => (.pointer (some ⟨b, 0, none⟩))) (run_box (v := .agg _) rfl) ?_
 intro b3 w1 hH2
 refine V (aV (B false) rfl) ?_
 refine RL.nil ?_
 refine SR ?_
 refine V (run_ldRel underlying48 rfl rfl rfl (hH2.blk (i := 0) rfl)) ?_
 refine RL.callP rfl hH2 (c_clearanceref03_Points _  _) (run_call1 call73 rfl) ?_
 intro w4 hH5
 refine V (aV (I _) rfl) ?_
 refine RL.nil ?_
 refine SR ?_
 refine V (mV (I _) rfl) ?_
 refine V (run_geq rfl rfl) ?_
 refine V (mV (B _) rfl) ?_
 refine RL.splitP (dj := 12) rfl (fun h7 => ?_) (fun h7 => ?_)
 ·refine RL.gT rfl (bT h7) ?_
  refine V (mV (I _) rfl) ?_
  refine RL.gT rfl (bT h7) ?_
  refine V (run_geq rfl rfl) ?_
  refine V (run_pickT (bT h7) (v := B _) rfl) ?_
  refine V (mV (B _) rfl) ?_
  refine RL.splitP (dj := 16) rfl (fun h9 => ?_) (fun h9 => ?_)
  ·refine RL.gT rfl (bT h9) ?_
   refine V (mV (I _) rfl) ?_
   refine RL.gT rfl (bT h9) ?_
   refine V (mV (I _) rfl) ?_
   refine RL.gT rfl (bT h9) ?_
   refine V (run_lss rfl rfl) ?_
   refine V (run_pickT (bT h9) (v := B _) rfl) ?_
   refine V (mV (B _) rfl) ?_
   refine RL.splitP (dj := 21) rfl (fun h11 => ?_) (fun h11 => ?_)
   ·refine RL.gT rfl (bT h11) ?_
    refine V (mV (I _) rfl) ?_
    refine RL.gT rfl (bT h11) ?_
    refine V (mV (I _) rfl) ?_
    refine RL.gT rfl (bT h11) ?_
    refine V (run_lss rfl rfl) ?_
    refine V (run_pickT (bT h11) (v := B _) rfl) ?_
    refine V (mV (B _) rfl) ?_
    refine RL.splitP (dj := 26) rfl (fun h13 => ?_) (fun h13 => ?_)
    ·refine RL.gT rfl (bT h13) ?_
     refine V (mV (I _) rfl) ?_
     refine RL.gT rfl (bT h13) ?_
     refine V (fA underlying48 1 rfl sizeOf46 rfl) ?_
     refine RL.gT rfl (bT h13) ?_
     refine V (run_indexAddrA underlying46 sizeOf32 rfl rfl (by omega)) ?_
     refine RL.gT rfl (bT h13) ?_
     refine V (run_ld underlying32 rfl rfl (hH5.cell (i := 0) rfl (relC_up _ (by omega)))) ?_
     refine RL.gT rfl (bT h13) ?_
     refine V (mV (I _) rfl) ?_
     refine RL.gT rfl (bT h13) ?_
     refine V (run_convIU underlying3 underlying112 rfl) ?_
     refine RL.gT rfl (bT h13) ?_
     refine V (run_shrU rfl rfl) ?_
     refine RL.gT rfl (bT h13) ?_
     refine V (run_remU rfl (b := 2#64) rfl (by decide)) ?_
     refine RL.gT rfl (bT h13) ?_
     refine V (run_eqlU rfl (b := 1#64) rfl) ?_
     refine V (run_pickT (bT h13) (v := B _) rfl) ?_
     refine V (aV (B _) rfl) ?_
     refine RL.nil ?_
     refine CW.ret ?_
     refine outP1 Tryz.results94 (congrArg B ?_) hH5.below
     first | exact has_ref (by omega) (by omega) (by omega) (by omega) | exact (has_out (by omega)).symm
    ·refine RL.gF rfl rfl (bF h13) rfl ?_
     refine RL.gF rfl rfl (bF h13) rfl ?_
     refine RL.gF rfl rfl (bF h13) rfl ?_
     refine RL.gF rfl rfl (bF h13) rfl ?_
     refine RL.gF rfl rfl (bF h13) rfl ?_
     refine RL.gF rfl rfl (bF h13) rfl ?_
     refine RL.gF rfl rfl (bF h13) rfl ?_
     refine RL.gF rfl rfl (bF h13) rfl ?_
     refine RL.gF rfl rfl (bF h13) rfl ?_
     refine V (run_pickF (bF h13) (v := B false) rfl) ?_
     refine V (aV (B _) rfl) ?_
     refine RL.nil ?_
     refine CW.ret ?_
     refine outP1 Tryz.results94 (congrArg B ?_) hH5.below
     first | exact has_ref (by omega) (by omega) (by omega) (by omega) | exact (has_out (by omega)).symm
   ·refine RL.gF rfl rfl (bF h11) rfl ?_
    refine RL.gF rfl rfl (bF h11) rfl ?_
    refine RL.gF rfl rfl (bF h11) rfl ?_
    refine V (run_pickF (bF h11) (v := B false) rfl) ?_
    refine V (mV (B _) rfl) ?_
    refine RL.gF rfl rfl rfl rfl ?_
    refine RL.gF rfl rfl rfl rfl ?_
    refine RL.gF rfl rfl rfl rfl ?_
    refine RL.gF rfl rfl rfl rfl ?_
    refine RL.gF rfl rfl rfl rfl ?_
    refine RL.gF rfl rfl rfl rfl ?_
    refine RL.gF rfl rfl rfl rfl ?_
    refine RL.gF rfl rfl rfl rfl ?_
    refine RL.gF rfl rfl rfl rfl ?_
    refine V (run_pickF rfl (v := B false) rfl) ?_
    refine V (aV (B _) rfl) ?_
    refine RL.nil ?_
    refine CW.ret ?_
    refine outP1 Tryz.results94 (congrArg B ?_) hH5.below
    first | exact has_ref (by omega) (by omega) (by omega) (by omega) | exact (has_out (by omega)).symm
  ·refine RL.gF rfl rfl (bF h9) rfl ?_
   refine RL.gF rfl rfl (bF h9) rfl ?_
   refine RL.gF rfl rfl (bF h9) rfl ?_
   refine V (run_pickF (bF h9) (v := B false) rfl) ?_
   refine V (mV (B _) rfl) ?_
   refine RL.gF rfl rfl rfl rfl ?_
   refine RL.gF rfl rfl rfl rfl ?_
   refine RL.gF rfl rfl rfl rfl ?_
   refine V (run_pickF rfl (v := B false) rfl) ?_
   refine V (mV (B _) rfl) ?_
   refine RL.gF rfl rfl rfl rfl ?_
   refine RL.gF rfl rfl rfl rfl ?_
   refine RL.gF rfl rfl rfl rfl ?_
   refine RL.gF rfl rfl rfl rfl ?_
   refine RL.gF rfl rfl rfl rfl ?_
   refine RL.gF rfl rfl rfl rfl ?_
   refine RL.gF rfl rfl rfl rfl ?_
   refine RL.gF rfl rfl rfl rfl ?_
   refine RL.gF rfl rfl rfl rfl ?_
   refine V (run_pickF rfl (v := B false) rfl) ?_
   refine V (aV (B _) rfl) ?_
   refine RL.nil ?_
   refine CW.ret ?_
   refine outP1 Tryz.results94 (congrArg B ?_) hH5.below
   first | exact has_ref (by omega) (by omega) (by omega) (by omega) | exact (has_out (by omega)).symm
 ·refine RL.gF rfl rfl (bF h7) rfl ?_
  refine RL.gF rfl rfl (bF h7) rfl ?_
  refine V (run_pickF (bF h7) (v := B false) rfl) ?_
  refine V (mV (B _) rfl) ?_
  refine RL.gF rfl rfl rfl rfl ?_
  refine RL.gF rfl rfl rfl rfl ?_
  refine RL.gF rfl rfl rfl rfl ?_
  refine V (run_pickF rfl (v := B false) rfl) ?_
  refine V (mV (B _) rfl) ?_
  refine RL.gF rfl rfl rfl rfl ?_
  refine RL.gF rfl rfl rfl rfl ?_
  refine RL.gF rfl rfl rfl rfl ?_
  refine V (run_pickF rfl (v := B false) rfl) ?_
  refine V (mV (B _) rfl) ?_
  refine RL.gF rfl rfl rfl rfl ?_
  refine RL.gF rfl rfl rfl rfl ?_
  refine RL.gF rfl rfl rfl rfl ?_
  refine RL.gF rfl rfl rfl rfl ?_
  refine RL.gF rfl rfl rfl rfl ?_
  refine RL.gF rfl rfl rfl rfl ?_
  refine RL.gF rfl rfl rfl rfl ?_
  refine RL.gF rfl rfl rfl rfl ?_
  refine RL.gF rfl rfl rfl rfl ?_
  refine V (run_pickF rfl (v := B false) rfl) ?_
  refine V (aV (B _) rfl) ?_
  refine RL.nil ?_
  refine CW.ret ?_
  refine outP1 Tryz.results94 (congrArg B ?_) hH5.below
  first | exact has_ref (by omega) (by omega) (by omega) (by omega) | exact (has_out (by omega)).symm

theorem c_clearanceref03_In (v : Value) (l : List Int) (x : Int) (w : World) (hs : Sl w v 1 l.length (l.map I)) : Calls Tryz.prog 146 #[v, I x] w (Pure (B (l.contains x)) w) := by
 have hm := hs.small
 unfold maxLen at hm
 refine enter Tryz.func146 rfl Tryz.ntmps146 rfl ?_
 have hH := Hp.start w
 refine SR ?_
 refine V (aV (B false) rfl) ?_
 refine RL.nil ?_
 refine CW.seq ?_
 refine SR ?_
 refine V (aV (I 0) rfl) ?_
 refine RL.nil ?_
 refine CW.block ?_
 refine CW.loop (G := (Int)) (fun (k : Int) s' w' => (Fr [4, 5, 6, 7, 8, 9, 10, 11, 12, 13, 14, 15, 16, 17] _ s') ∧ (Hp w w' _) ∧ (s' 5 = I k) ∧ (0 ≤ k) ∧ (k ≤ l.length) ∧ (∀ j : Int, 0 ≤ j → j < k → l.getD j.toNat 0 ≠ x)) (fun (k : Int) => (l.length - k).toNat) (0) ⟨Fr.refl _ _, hH, rfl, (by omega), (by omega), fun j a b => absurd b (by omega)⟩ ?_
 rintro k sg1 w1 ⟨fr1, hH1, e5_1, h0, hk, hf⟩
 have e0_1 := (fr1 0 rfl).trans (by conv => lhs; whnf)
 have e1_1 : sg1 1 = I _ := (fr1 1 rfl).trans rfl
 refine CW.seq ?_
 refine SR ?_
 refine V (run_move e5_1) ?_
 refine V (run_move e0_1) ?_
 refine V (run_lenSl (hs.hp hH1) rfl underlying82 rfl) ?_
 refine V (run_lss rfl rfl) ?_
 refine RL.nil ?_
 refine CW.condP rfl (fun h3 => ?_) (fun h3 => ?_)
 ·refine CW.skip ?_
  refine CW.seq ?_
  refine CW.block ?_
  refine SR ?_
  refine V (run_move e0_1) ?_
  refine V (run_move e5_1) ?_
  refine V (run_indexAddrS (hs.hp hH1) underlying82 sizeOf3 rfl rfl (by omega)) ?_
  refine V (run_ld underlying3 rfl rfl ((hs.hp hH1).cell _ _ (map_at (by omega)))) ?_
  refine V (run_move e1_1) ?_
  refine V (run_eql rfl rfl) ?_
  refine RL.nil ?_
  refine CW.condP rfl (fun h5 => ?_) (fun h5 => ?_)
  ·refine SR ?_
   refine V (aV (B true) rfl) ?_
   refine RL.nil ?_
   refine CW.ret ?_
   refine outP1 Tryz.results146 (congrArg B ?_) hH1.below
   (exact (in_yes h0 ‹_› ‹_›).symm)
  ·refine CW.skip ?_
   refine CW.region ?_
   refine V (run_move e5_1) ?_
   refine V (run_add rfl rfl (by omega)) ?_
   refine V (aV (I _) rfl) ?_
   refine RL.nil ?_
   refine ⟨k + 1, ?_, fr1.u4.u4.u4.u1, hH1, (congrArg I (by first | rfl | omega)), ?_, ?_, ?_⟩
   ·((try dsimp only); omega)
   ·omega
   ·omega
   ·exact fun j a b => if e : j = k then e ▸ ‹¬ l.getD k.toNat 0 = x› else hf j a (by omega)
 ·refine CW.exit (id := 0) rfl ?_
  refine SR ?_
  refine V (aV (B false) rfl) ?_
  refine RL.nil ?_
  refine CW.ret ?_
  refine outP1 Tryz.results146 (congrArg B ?_) hH1.below
  (exact (in_no fun j a b => hf j a (by omega)).symm)

theorem c_relate_row (r : Rl) (i : Int) (hi : 0 ≤ i ∧ i < 64) (w : World) : Calls Tryz.prog 137 #[.agg (relC r), I i] w (Pure (U (rowR r i)) w) := by
 refine enter Tryz.func137 rfl Tryz.ntmps137 rfl ?_
 have hH := Hp.start w
 refine SR ?_
 refine RL.new rfl hH (f := fun b => (.pointer (some ⟨b, 0, none⟩))) (run_box (v := .agg _) rfl) ?_
 intro b3 w1 hH2
 refine V (aV (U 0#64) rfl) ?_
 refine RL.nil ?_
 refine CW.seq ?_
 refine CW.regionD (by kernel_rfl) hH2 ?_
 intro w4 hH5
 refine AT 0 rfl (hH5.sub sR) (fun w hS => mV (I _) rfl) ?_
 refine AT 1 rfl (hH5.sub sR) (fun w hS => fA underlying48 1 rfl sizeOf46 rfl) ?_
 refine AT 2 rfl (hH5.sub sR) (fun w hS => run_indexAddrA underlying46 sizeOf32 rfl rfl (by omega)) ?_
 refine AT 3 rfl (hH5.sub sR) (fun w hS => run_ld underlying32 rfl rfl (hS.cell (i := 0) rfl (relC_up _ (by omega)))) ?_
 refine AT 4 rfl (hH5.sub sR) (fun w hS => run_ldRel underlying48 rfl rfl rfl (hS.blk (i := 0) rfl)) ?_
 refine A1 5 ?_
 refine AO.callP rfl gnone rfl hH5 sR (c_relate_points _  _) (run_call1 call128 rfl) ?_
 intro w6 hH7
 refine A1 6 ?_
 refine AO.callP rfl gnone rfl hH7 sR (c_mask_Below _  _) (run_call1 call80 rfl) ?_
 intro w8 hH9
 refine AT 7 rfl (hH9.sub sR) (fun w hS => run_andU rfl rfl) ?_
 refine AT 8 rfl (hH9.sub sR) (fun w hS => aV (U _) rfl) ?_
 refine AD ?_
 refine CW.ret ?_
 refine outP1 Tryz.results137 (congrArg U ?_) hH9.below
 rfl

theorem c_relate_plain (r : Rl) (w : World) : Calls Tryz.prog 114 #[.agg (relC r)] w (Pure (.agg (relC (plainR r))) w) := by
 have hp := pts_bd r
 refine enter Tryz.func114 rfl Tryz.ntmps114 rfl ?_
 have hH := Hp.start w
 refine SR ?_
 refine RL.new rfl hH (f := fun b => (.pointer (some ⟨b, 0, none⟩))) (run_box (v := .agg _) rfl) ?_
 intro b3 w1 hH2
 refine RL.new rfl hH2 (f := fun b => (.pointer (some ⟨b, 0, none⟩))) (run_alloc zero_rel) ?_
 intro b6 w4 hH5
 refine RL.nil ?_
 refine SR ?_
 refine V (run_ldRel underlying48 rfl rfl rfl (hH5.blk (i := 1) rfl)) ?_
 refine RL.callP rfl hH5 (c_relate_points _  _) (run_call1 call128 rfl) ?_
 intro w7 hH8
 refine V (run_bld (vs := [(0, I _)]) rfl (built_rel _)) ?_
 refine RL.new rfl hH8 (f := fun b => (.pointer (some ⟨b, 0, none⟩))) (run_alloc zero_rel) ?_
 intro b11 w9 hH10
 refine RL.set hH10 (i := 0) rfl (run_stRel rfl rfl rfl (hH10.blk (i := 0) rfl)) ?_
 intro w12 hH13
 simp only [z0, z1] at hH13
 refine RL.nil ?_
 refine CW.seq ?_
 refine SR ?_
 refine V (fA underlying48 0 rfl sizeOf3 rfl) ?_
 refine V (run_ld underlying3 rfl rfl (hH13.cell (i := 0) rfl (relC_N _))) ?_
 refine V (mV (I 0) rfl) ?_
 refine RL.nil ?_
 refine CW.block ?_
 have hz : (⟨pts r, fun _ => 0#64⟩ : Rl).n = pts r := rfl
 refine CW.loop (G := (Int) × (Rl)) (fun (⟨k, r1⟩ : (Int) × (Rl)) s' w' => (Fr [4, 10, 11, 12, 13, 14, 15, 16, 17, 18, 19] _ s') ∧ (Hp w w' (.blk b11 (.cells (relC r1) 48 (0, 0)) :: _)) ∧ (s' 10 = I k) ∧ (0 ≤ k) ∧ (k ≤ pts r) ∧ (r1 = fillR (pts r) (fun i => rowR r i) k)) (fun (⟨k, r1⟩ : (Int) × (Rl)) => (pts r - k).toNat) ((0, ⟨pts r, fun _ => 0#64⟩)) ⟨Fr.refl _ _, hH13, rfl, (by omega), (by omega), fill_zero _ _⟩ ?_
 rintro ⟨k, r1⟩ sg14 w14 ⟨fr14, hH14, e10_14, h0, hk, hr⟩
 have e1_14 : sg14 1 = Pn _ _ := (fr14 1 rfl).trans rfl
 have e2_14 : sg14 2 = Pn _ _ := (fr14 2 rfl).trans rfl
 have e3_14 : sg14 3 = Pn _ _ := (fr14 3 rfl).trans rfl
 have e9_14 : sg14 9 = I _ := (fr14 9 rfl).trans rfl
 have hn : r1.n = pts r := by rw [hr]; rfl
 refine SR ?_
 refine V (run_lss e10_14 e9_14) ?_
 refine RL.nil ?_
 refine CW.seq ?_
 refine CW.condP rfl (fun h16 => ?_) (fun h16 => ?_)
 ·refine CW.skip ?_
  refine CW.seq ?_
  refine CW.block ?_
  refine SR ?_
  refine V (run_move e10_14) ?_
  refine V (aV (I _) rfl) ?_
  refine RL.nil ?_
  refine CW.region ?_
  refine V (mV (I _) rfl) ?_
  refine V (run_ldRel underlying48 rfl rfl e1_14 (hH14.blk (i := 2) rfl)) ?_
  refine V (mV (I _) rfl) ?_
  refine RL.callP rfl hH14 (c_relate_row _ _ (by first | assumption | omega | (dsimp only at *; omega) | exact lst_at_bd (by assumption) (by assumption) | exact low_bd (lst_at (by assumption) (by assumption))) _) (run_call2 call137 rfl rfl) ?_
  intro w17 hH18
  refine V (fA underlying48 1 rfl sizeOf46 e3_14) ?_
  refine V (run_indexAddrA underlying46 sizeOf32 rfl rfl (by first | omega | (dsimp only at *; omega))) ?_
  refine RL.set hH18 (i := 0) rfl (run_st rfl rfl (v := U _) rfl rfl rfl (hH18.blk (i := 0) rfl) (by rw [relC_size]; omega)) ?_
  intro w19 hH20
  simp only [z0, z1] at hH20
  rw [relC_put] at hH20
  refine RL.nil ?_
  refine CW.region ?_
  refine V (run_add e10_14 rfl (by omega)) ?_
  refine V (mV (I _) rfl) ?_
  refine RL.nil ?_
  refine ⟨(k + 1, _), ?_, fr14.u4.u4.u1.u1.u1, hH20, (congrArg I (by first | rfl | omega)), ?_, ?_, ?_⟩
  ·((try dsimp only); omega)
  ·omega
  ·omega
  ·rw [hr]; exact fill_put h0 (by rw [Int.toNat_of_nonneg h0])
 ·refine CW.exit (id := 0) rfl ?_
  refine SR ?_
  refine V (run_ldRel underlying48 rfl rfl e3_14 (hH14.blk (i := 0) rfl)) ?_
  refine RL.set hH14 (i := 1) rfl (run_stRel rfl e2_14 rfl (hH14.blk (i := 1) rfl)) ?_
  intro w21 hH22
  simp only [z0, z1] at hH22
  refine RL.nil ?_
  refine CW.ret ?_
  refine outC Tryz.results114 e2_14 hH22 (i := 1) rfl underlying48 rfl rfl ⟨?_, hH22.below⟩
  (rw [hr, show k = pts r by omega]; rfl)

theorem c_relate_Up (r : Rl) (s : BitVec 64) (w : World) (hT : Tab w) : Calls Tryz.prog 124 #[.agg (relC r), U s] w (Pure (U (upR r s)) w) := by
 have hp := pts_bd r
 refine enter Tryz.func124 rfl Tryz.ntmps124 rfl ?_
 have hH := Hp.start w
 refine SR ?_
 refine RL.new rfl hH (f := fun b => (.pointer (some ⟨b, 0, none⟩))) (run_box (v := .agg _) rfl) ?_
 intro b3 w1 hH2
 refine V (aV (U 0#64) rfl) ?_
 refine RL.nil ?_
 refine SR ?_
 refine V (aV (U 0#64) rfl) ?_
 refine RL.nil ?_
 refine CW.seq ?_
 refine SR ?_
 refine V (mV (U _) rfl) ?_
 refine V (run_ldRel underlying48 rfl rfl rfl (hH2.blk (i := 0) rfl)) ?_
 refine RL.callP rfl hH2 (c_relate_points _  _) (run_call1 call128 rfl) ?_
 intro w4 hH5
 refine RL.callP rfl hH5 (c_mask_Below _  _) (run_call1 call80 rfl) ?_
 intro w6 hH7
 refine V (run_andU rfl rfl) ?_
 refine RL.callR rfl hH7 (c_mask_List _  _ (hT.hp hH7)) (run_call1 call55 rfl) ?_
 intro v10 w8 hH9
 refine V (run_lenSl (hH9.sl (i := 0) rfl) rfl underlying82 rfl) ?_
 refine V (mV (I 0) rfl) ?_
 refine RL.nil ?_
 refine CW.block ?_
 have hl := lst_len (s &&& below (pts r))
 refine CW.loop (G := (Int)) (fun (k : Int) s' w' => (Fr [5, 7, 15, 16, 17, 18, 19, 20, 21, 22, 23, 24] _ s') ∧ (Hp w w' _) ∧ (s' 5 = U (orAll (rowR r) ((lst (s &&& below (pts r))).take k.toNat))) ∧ (s' 15 = I k) ∧ (0 ≤ k) ∧ (k ≤ (lst (s &&& below (pts r))).length)) (fun (k : Int) => ((lst (s &&& below (pts r))).length - k).toNat) (0) ⟨Fr.refl _ _, hH9, (congrArg U (by simp [orAll])), rfl, (by omega), (by omega)⟩ ?_
 rintro k sg11 w11 ⟨fr11, hH11, e5_11, e15_11, h0, hk⟩
 have e2_11 : sg11 2 = Pn _ _ := (fr11 2 rfl).trans rfl
 have e4_11 : sg11 4 = U _ := (fr11 4 rfl).trans rfl
 have e13_11 := (fr11 13 rfl).trans (by conv => lhs; whnf)
 have e14_11 : sg11 14 = I _ := (fr11 14 rfl).trans rfl
 refine SR ?_
 refine V (run_lss e15_11 e14_11) ?_
 refine RL.nil ?_
 refine CW.seq ?_
 refine CW.condP rfl (fun h13 => ?_) (fun h13 => ?_)
 ·refine CW.skip ?_
  refine CW.seq ?_
  refine CW.block ?_
  refine SR ?_
  refine V (run_indexAddrS (hH11.sl (i := 0) rfl) underlying82 sizeOf3 e13_11 e15_11 (by omega)) ?_
  refine V (run_ld underlying3 rfl rfl ((hH11.sl (i := 0) rfl).cell _ _ (map_at (by omega)))) ?_
  refine V (aV (I _) rfl) ?_
  refine RL.nil ?_
  refine CW.region ?_
  refine V (run_move e5_11) ?_
  refine V (run_ldRel underlying48 rfl rfl e2_11 (hH11.blk (i := 1) rfl)) ?_
  refine V (mV (I _) rfl) ?_
  refine RL.callP rfl hH11 (c_relate_row _ _ (by first | assumption | omega | (dsimp only at *; omega) | exact lst_at_bd (by assumption) (by assumption) | exact low_bd (lst_at (by assumption) (by assumption))) _) (run_call2 call137 rfl rfl) ?_
  intro w14 hH15
  refine V (run_orU rfl rfl) ?_
  refine V (aV (U _) rfl) ?_
  refine RL.nil ?_
  refine CW.region ?_
  refine V (run_add e15_11 rfl (by omega)) ?_
  refine V (mV (I _) rfl) ?_
  refine RL.nil ?_
  refine ⟨k + 1, ?_, fr11.u4.u4.u4, hH15, (congrArg U (orAll_next h0 ‹_›)), (congrArg I (by first | rfl | omega)), ?_, ?_⟩
  ·((try dsimp only); omega)
  ·omega
  ·omega
 ·refine CW.exit (id := 0) rfl ?_
  refine SR ?_
  refine V (run_move e5_11) ?_
  refine V (aV (U _) rfl) ?_
  refine RL.nil ?_
  refine CW.ret ?_
  refine outP1 Tryz.results124 (congrArg U ?_) hH11.below
  (rw [take_all ‹_›]; rfl)

theorem c_relate_Down (r : Rl) (s : BitVec 64) (w : World) : Calls Tryz.prog 135 #[.agg (relC r), U s] w (Pure (U (downR r s)) w) := by
 have hp := pts_bd r
 refine enter Tryz.func135 rfl Tryz.ntmps135 rfl ?_
 have hH := Hp.start w
 refine SR ?_
 refine RL.new rfl hH (f := fun b => (.pointer (some ⟨b, 0, none⟩))) (run_box (v := .agg _) rfl) ?_
 intro b3 w1 hH2
 refine V (aV (U 0#64) rfl) ?_
 refine RL.nil ?_
 refine SR ?_
 refine V (aV (U 0#64) rfl) ?_
 refine RL.nil ?_
 refine CW.seq ?_
 refine SR ?_
 refine V (run_ldRel underlying48 rfl rfl rfl (hH2.blk (i := 0) rfl)) ?_
 refine RL.callP rfl hH2 (c_relate_points _  _) (run_call1 call128 rfl) ?_
 intro w4 hH5
 refine V (mV (I 0) rfl) ?_
 refine RL.nil ?_
 refine CW.block ?_
 refine CW.loop (G := (Int)) (fun (k : Int) s' w' => (Fr [5, 6, 9, 10, 11, 12, 13, 14, 15, 16, 17, 18, 19, 20, 21] _ s') ∧ (Hp w w' _) ∧ (s' 5 = U (downTo r s k)) ∧ (s' 9 = I k) ∧ (0 ≤ k) ∧ (k ≤ pts r)) (fun (k : Int) => (pts r - k).toNat) (0) ⟨Fr.refl _ _, hH5, (congrArg U (by simp [downTo, bitsTo])), rfl, (by omega), (by omega)⟩ ?_
 rintro k sg6 w6 ⟨fr6, hH6, e5_6, e9_6, h0, hk⟩
 have e1_6 : sg6 1 = U _ := (fr6 1 rfl).trans rfl
 have e2_6 : sg6 2 = Pn _ _ := (fr6 2 rfl).trans rfl
 have e4_6 : sg6 4 = U _ := (fr6 4 rfl).trans rfl
 have e8_6 : sg6 8 = I _ := (fr6 8 rfl).trans rfl
 refine SR ?_
 refine V (run_lss e9_6 e8_6) ?_
 refine RL.nil ?_
 refine CW.seq ?_
 refine CW.condP rfl (fun h8 => ?_) (fun h8 => ?_)
 ·refine CW.skip ?_
  refine CW.seq ?_
  refine CW.block ?_
  refine SR ?_
  refine V (run_move e9_6) ?_
  refine V (aV (I _) rfl) ?_
  refine RL.nil ?_
  refine SR ?_
  refine V (run_ldRel underlying48 rfl rfl e2_6 (hH6.blk (i := 0) rfl)) ?_
  refine V (mV (I _) rfl) ?_
  refine RL.callP rfl hH6 (c_relate_row _ _ (by first | assumption | omega | (dsimp only at *; omega) | exact lst_at_bd (by assumption) (by assumption) | exact low_bd (lst_at (by assumption) (by assumption))) _) (run_call2 call137 rfl rfl) ?_
  intro w9 hH10
  refine V (run_move e1_6) ?_
  refine V (run_andU rfl rfl) ?_
  refine V (run_neqU rfl (b := 0#64) rfl) ?_
  refine RL.nil ?_
  refine CW.condP rfl (fun h12 => ?_) (fun h12 => ?_)
  ·refine CW.region ?_
   refine V (run_move e5_6) ?_
   refine V (mV (I _) rfl) ?_
   refine RL.callP rfl hH10 (c_mask_With _ _  _) (run_call2 call88 rfl rfl) ?_
   intro w13 hH14
   refine V (aV (U _) rfl) ?_
   refine RL.nil ?_
   refine CW.region ?_
   refine V (run_add e9_6 rfl (by omega)) ?_
   refine V (mV (I _) rfl) ?_
   refine RL.nil ?_
   refine ⟨k + 1, ?_, fr6.u4.u4.u4.u1.u1.u1, hH14, (congrArg U (by first | exact down_yes h0 (by omega) ‹_› | exact down_not h0 ‹_›)), (congrArg I (by first | rfl | omega)), ?_, ?_⟩
   ·((try dsimp only); omega)
   ·omega
   ·omega
  ·refine CW.skip ?_
   refine CW.region ?_
   refine V (run_add e9_6 rfl (by omega)) ?_
   refine V (mV (I _) rfl) ?_
   refine RL.nil ?_
   refine ⟨k + 1, ?_, fr6.u4.u4.u1.u1.u1, hH10, (Eq.trans e5_6 (congrArg U (by first | exact down_yes h0 (by omega) ‹_› | exact down_not h0 ‹_›))), (congrArg I (by first | rfl | omega)), ?_, ?_⟩
   ·((try dsimp only); omega)
   ·omega
   ·omega
 ·refine CW.exit (id := 0) rfl ?_
  refine SR ?_
  refine V (run_move e5_6) ?_
  refine V (aV (U _) rfl) ?_
  refine RL.nil ?_
  refine CW.ret ?_
  refine outP1 Tryz.results135 (congrArg U ?_) hH6.below
  (rw [show k = pts r by omega]; rfl)

theorem c_clearanceref03_Plain (r : Rl) (w : World) : Calls Tryz.prog 143 #[.agg (relC r)] w (Pure (.agg (relC (plainR r))) w) := by
 have hp := pts_bd r
 refine enter Tryz.func143 rfl Tryz.ntmps143 rfl ?_
 have hH := Hp.start w
 refine SR ?_
 refine RL.new rfl hH (f := fun b => (.pointer (some ⟨b, 0, none⟩))) (run_box (v := .agg _) rfl) ?_
 intro b3 w1 hH2
 refine RL.new rfl hH2 (f := fun b => (.pointer (some ⟨b, 0, none⟩))) (run_alloc zero_rel) ?_
 intro b6 w4 hH5
 refine RL.nil ?_
 refine SR ?_
 refine V (run_ldRel underlying48 rfl rfl rfl (hH5.blk (i := 1) rfl)) ?_
 refine RL.callP rfl hH5 (c_clearanceref03_Points _  _) (run_call1 call73 rfl) ?_
 intro w7 hH8
 refine V (run_bld (vs := [(0, I _)]) rfl (built_rel _)) ?_
 refine RL.new rfl hH8 (f := fun b => (.pointer (some ⟨b, 0, none⟩))) (run_alloc zero_rel) ?_
 intro b11 w9 hH10
 refine RL.set hH10 (i := 0) rfl (run_stRel rfl rfl rfl (hH10.blk (i := 0) rfl)) ?_
 intro w12 hH13
 simp only [z0, z1] at hH13
 refine RL.nil ?_
 refine CW.seq ?_
 refine SR ?_
 refine V (aV (I 0) rfl) ?_
 refine RL.nil ?_
 refine CW.block ?_
 have hz : (⟨pts r, fun _ => 0#64⟩ : Rl).n = pts r := rfl
 refine CW.loop (G := (Int) × (Rl)) (fun (⟨k, r1⟩ : (Int) × (Rl)) s' w' => (Fr [4, 5, 6, 10, 11, 12, 13, 14, 15, 16, 17, 18, 19, 20, 21, 22, 23, 24, 25, 26, 27, 28, 29, 30, 31, 32, 33, 34] _ s') ∧ (Hp w w' (.blk b11 (.cells (relC r1) 48 (0, 0)) :: _)) ∧ (s' 4 = I k) ∧ (0 ≤ k) ∧ (k ≤ pts r) ∧ (r1 = fillR (pts r) (fun i => rowR r i) k)) (fun (⟨k, r1⟩ : (Int) × (Rl)) => (pts r - k).toNat) ((0, ⟨pts r, fun _ => 0#64⟩)) ⟨Fr.refl _ _, hH13, rfl, (by omega), (by omega), fill_zero _ _⟩ ?_
 rintro ⟨k, r1⟩ sg14 w14 ⟨fr14, hH14, e4_14, h0, hk, hr⟩
 have e1_14 : sg14 1 = Pn _ _ := (fr14 1 rfl).trans rfl
 have e2_14 : sg14 2 = Pn _ _ := (fr14 2 rfl).trans rfl
 have e3_14 : sg14 3 = Pn _ _ := (fr14 3 rfl).trans rfl
 have hn : r1.n = pts r := by rw [hr]; rfl
 refine CW.seq ?_
 refine SR ?_
 refine V (run_move e4_14) ?_
 refine V (fA underlying48 0 rfl sizeOf3 e3_14) ?_
 refine V (run_ld underlying3 rfl rfl (hH14.cell (i := 0) rfl (relC_N _))) ?_
 refine V (run_lss rfl rfl) ?_
 refine RL.nil ?_
 refine CW.condP rfl (fun h16 => ?_) (fun h16 => ?_)
 ·refine CW.skip ?_
  refine CW.seq ?_
  refine CW.block ?_
  refine SR ?_
  refine V (aV (.slice none 0 0) rfl) ?_
  have hH17 := hH14.nilRow 3 1
  refine RL.nil ?_
  refine CW.seq ?_
  refine SR ?_
  refine V (aV (I 0) rfl) ?_
  refine RL.nil ?_
  refine CW.block ?_
  refine CW.loop (G := (Int) × (List Int) × (Value)) (fun (⟨j, l, v5⟩ : (Int) × (List Int) × (Value)) s' w' => (Fr [5, 6, 16, 17, 18, 19, 20, 21, 22, 23, 24, 25, 26, 27, 28, 29] _ s') ∧ (Hp w w' (.row v5 3 1 (l.length) (l.map I) :: _)) ∧ (s' 5 = v5) ∧ (s' 6 = I j) ∧ (0 ≤ j) ∧ (j ≤ pts r) ∧ (l = aboveTo r k j)) (fun (⟨j, l, v5⟩ : (Int) × (List Int) × (Value)) => (pts r - j).toNat) ((0, [], (.slice none 0 0 : Value))) ⟨Fr.refl _ _, hH17, rfl, rfl, (by omega), (by omega), rfl⟩ ?_
  rintro ⟨j, l, v5⟩ sg18 w18 ⟨fr18, hH18, e5_18, e6_18, j0, j1, hl⟩
  have e1_18 := (fr18 1 rfl).trans e1_14
  have e2_18 := (fr18 2 rfl).trans e2_14
  have e3_18 := (fr18 3 rfl).trans e3_14
  have e4_18 := (fr18 4 rfl).trans e4_14
  have e10_18 : sg18 10 = I _ := (fr18 10 rfl).trans rfl
  have e11_18 : sg18 11 = Pn _ _ := (fr18 11 rfl).trans rfl
  have e12_18 : sg18 12 = I _ := (fr18 12 rfl).trans rfl
  have e13_18 : sg18 13 = B _ := (fr18 13 rfl).trans rfl
  refine CW.seq ?_
  refine SR ?_
  refine V (run_move e6_18) ?_
  refine V (fA underlying48 0 rfl sizeOf3 e3_18) ?_
  refine V (run_ld underlying3 rfl rfl (hH18.cell (i := 1) rfl (relC_N _))) ?_
  refine V (run_lss rfl rfl) ?_
  refine RL.nil ?_
  refine CW.condP rfl (fun h20 => ?_) (fun h20 => ?_)
  ·refine CW.skip ?_
   refine CW.seq ?_
   refine CW.block ?_
   refine SR ?_
   refine V (run_ldRel underlying48 rfl rfl e1_18 (hH18.blk (i := 3) rfl)) ?_
   refine V (run_move e4_18) ?_
   refine V (run_move e6_18) ?_
   refine RL.callP rfl hH18 (c_clearanceref03_Has _ _ _  _) (run_call3 call94 rfl rfl rfl) ?_
   intro w21 hH22
   refine RL.nil ?_
   refine CW.cond rfl (fun h24 => ?_) (fun h24 => ?_)
   ·refine CW.region ?_
    refine V (run_move e5_18) ?_
    refine V (run_move e6_18) ?_
    refine RL.new rfl hH22 (f := fun b => (.slice (some ⟨b, 0, none⟩) 1 1)) (run_mkL underlying82 rfl rfl (sz := 1) (vs := [I _]) rfl rfl (by decide) (by decide) rfl rfl) ?_
    intro b27 w25 hH26
    (try simp only [List.flatMap_cons, List.flatMap_nil, clI, clB, clS, clP, clL, clA, List.append_nil, List.cons_append, List.nil_append] at hH26)
    refine RL.app rfl hH26 (i := 1) rfl (hH26.slBlk (i := 0) (n := 1) (sz := 1) rfl rfl (by decide)) rfl rfl underlying82 rfl rfl (size := 1) (bytes := 8) rfl rfl rfl (by decide) (by simp [Value.oneCell']) (by have := @above_len r k j; rw [← hl] at this; omega) (by have := @above_len r k j; rw [← hl] at this; simp only [maxLen]; omega) ?_
    intro v28 w29 hH30
    simp only [z0, z1] at hH30
    refine V (run_assign (by conv => lhs; whnf)) ?_
    refine RL.nil ?_
    refine CW.region ?_
    refine V (run_move e6_18) ?_
    refine V (run_add rfl rfl (by omega)) ?_
    refine V (aV (I _) rfl) ?_
    refine RL.nil ?_
    refine ⟨(j + 1, l ++ [j], v28), ?_, fr18.u4.u4.u4.u4, (Hp.conv (hH30.sub (sQ sR)) (by first | rfl | simp)), rfl, (congrArg I (by first | rfl | omega)), ?_, ?_, ?_⟩
    ·((try dsimp only); omega)
    ·omega
    ·omega
    ·first | (rw [hl]; exact above_yes j0 ‹_›) | (rw [hl]; exact above_not j0 ‹_›)
   ·refine CW.skip ?_
    refine CW.region ?_
    refine V (run_move e6_18) ?_
    refine V (run_add rfl rfl (by omega)) ?_
    refine V (aV (I _) rfl) ?_
    refine RL.nil ?_
    refine ⟨(j + 1, l, v5), ?_, fr18.u4.u4.u1.u1.u1, (Hp.conv hH22 (by first | rfl | simp)), e5_18, (congrArg I (by first | rfl | omega)), ?_, ?_, ?_⟩
    ·((try dsimp only); omega)
    ·omega
    ·omega
    ·first | (rw [hl]; exact above_yes j0 ‹_›) | (rw [hl]; exact above_not j0 ‹_›)
  ·refine CW.exit (id := 2) rfl ?_
   refine CW.region ?_
   refine V (run_move e4_18) ?_
   refine V (run_move e5_18) ?_
   refine RL.callP rfl hH18 (c_clearanceref01_Of _ _  _ (hH18.sl (i := 0) rfl)) (run_call1 call92 rfl) ?_
   intro w31 hH32
   refine V (fA underlying48 1 rfl sizeOf46 e3_18) ?_
   refine V (run_indexAddrA underlying46 sizeOf32 rfl rfl (by first | omega | (dsimp only at *; omega))) ?_
   refine RL.set hH32 (i := 1) rfl (run_st rfl rfl (v := U _) rfl rfl rfl (hH32.blk (i := 1) rfl) (by rw [relC_size]; omega)) ?_
   intro w33 hH34
   simp only [z0, z1] at hH34
   rw [relC_put] at hH34
   refine RL.nil ?_
   refine CW.region ?_
   refine V (run_move e4_18) ?_
   refine V (run_add rfl rfl (by omega)) ?_
   refine V (aV (I _) rfl) ?_
   refine RL.nil ?_
   refine ⟨(k + 1, _), ?_, (((fr14.u4.u1.u1).t fr18 rfl)).u4.u4.u4, (hH34.sub (sQ sR)), (congrArg I (by first | rfl | omega)), ?_, ?_, ?_⟩
   ·((try dsimp only); omega)
   ·omega
   ·omega
   ·rw [hr]; exact fill_put h0 (by rw [Int.toNat_of_nonneg h0, hl, show j = pts r by omega]; exact above_row ⟨h0, by omega⟩)
 ·refine CW.exit (id := 0) rfl ?_
  refine SR ?_
  refine V (run_ldRel underlying48 rfl rfl e3_14 (hH14.blk (i := 0) rfl)) ?_
  refine RL.set hH14 (i := 1) rfl (run_stRel rfl e2_14 rfl (hH14.blk (i := 1) rfl)) ?_
  intro w35 hH36
  simp only [z0, z1] at hH36
  refine RL.nil ?_
  refine CW.ret ?_
  refine outC Tryz.results143 e2_14 hH36 (i := 1) rfl underlying48 rfl rfl ⟨?_, hH36.below⟩
  (rw [hr, show k = pts r by omega]; rfl)

theorem c_relate_Closure (r : Rl) (w : World) : Calls Tryz.prog 138 #[.agg (relC r)] w (Pure (.agg (relC (cloR r))) w) := by
 have hp := pts_bd r
 have hn0 : (plainR r).n = pts r := rfl
 refine enter Tryz.func138 rfl Tryz.ntmps138 rfl ?_
 have hH := Hp.start w
 refine SR ?_
 refine RL.new rfl hH (f := fun b => (.pointer (some ⟨b, 0, none⟩))) (run_box (v := .agg _) rfl) ?_
 intro b3 w1 hH2
 refine RL.new rfl hH2 (f := fun b => (.pointer (some ⟨b, 0, none⟩))) (run_alloc zero_rel) ?_
 intro b6 w4 hH5
 refine RL.nil ?_
 refine SR ?_
 refine V (run_ldRel underlying48 rfl rfl rfl (hH5.blk (i := 1) rfl)) ?_
 refine RL.callP rfl hH5 (c_relate_plain _  _) (run_call1 call114 rfl) ?_
 intro w7 hH8
 refine RL.new rfl hH8 (f := fun b => (.pointer (some ⟨b, 0, none⟩))) (run_alloc zero_rel) ?_
 intro b11 w9 hH10
 refine RL.set hH10 (i := 0) rfl (run_stRel rfl rfl rfl (hH10.blk (i := 0) rfl)) ?_
 intro w12 hH13
 simp only [z0, z1] at hH13
 refine RL.nil ?_
 refine CW.seq ?_
 refine SR ?_
 refine V (fA underlying48 0 rfl sizeOf3 rfl) ?_
 refine V (run_ld underlying3 rfl rfl (hH13.cell (i := 0) rfl (relC_N _))) ?_
 refine V (mV (I 0) rfl) ?_
 refine RL.nil ?_
 refine CW.block ?_
 refine CW.loop (G := (Int) × (Rl)) (fun (⟨k, r1⟩ : (Int) × (Rl)) s' w' => (Fr [4, 11, 12, 13, 14, 15, 16, 17, 18, 19, 20, 21, 22, 23] _ s') ∧ (Hp w w' (.blk b11 (.cells (relC r1) 48 (0, 0)) :: _)) ∧ (s' 11 = I k) ∧ (0 ≤ k) ∧ (k ≤ pts r) ∧ (r1 = ⟨pts r, selfTo (plainR r).up k⟩)) (fun (⟨k, r1⟩ : (Int) × (Rl)) => (pts r - k).toNat) ((0, plainR r)) ⟨Fr.refl _ _, hH13, rfl, (by omega), (by omega), self_zero _ _⟩ ?_
 rintro ⟨k, r1⟩ sg14 w14 ⟨fr14, hH14, e11_14, h0, hk, hr⟩
 have e2_14 : sg14 2 = Pn _ _ := (fr14 2 rfl).trans rfl
 have e3_14 : sg14 3 = Pn _ _ := (fr14 3 rfl).trans rfl
 have e10_14 : sg14 10 = I _ := (fr14 10 rfl).trans rfl
 have hn : r1.n = pts r := by rw [hr]
 refine SR ?_
 refine V (run_lss e11_14 e10_14) ?_
 refine RL.nil ?_
 refine CW.seq ?_
 refine CW.condP rfl (fun h16 => ?_) (fun h16 => ?_)
 ·refine CW.skip ?_
  refine CW.seq ?_
  refine CW.block ?_
  refine SR ?_
  refine V (run_move e11_14) ?_
  refine V (aV (I _) rfl) ?_
  refine RL.nil ?_
  refine CW.region ?_
  refine V (mV (I _) rfl) ?_
  refine V (mV (I _) rfl) ?_
  refine V (fA underlying48 1 rfl sizeOf46 e3_14) ?_
  refine V (run_indexAddrA underlying46 sizeOf32 rfl rfl (by first | omega | (dsimp only at *; omega))) ?_
  refine V (run_ld underlying32 rfl rfl (hH14.cell (i := 0) rfl (relC_up _ (by omega)))) ?_
  refine V (mV (I _) rfl) ?_
  refine RL.callP rfl hH14 (c_mask_With _ _  _) (run_call2 call88 rfl rfl) ?_
  intro w17 hH18
  refine V (fA underlying48 1 rfl sizeOf46 e3_14) ?_
  refine V (run_indexAddrA underlying46 sizeOf32 rfl rfl (by first | omega | (dsimp only at *; omega))) ?_
  refine RL.set hH18 (i := 0) rfl (run_st rfl rfl (v := U _) rfl rfl rfl (hH18.blk (i := 0) rfl) (by rw [relC_size]; omega)) ?_
  intro w19 hH20
  simp only [z0, z1] at hH20
  rw [relC_put] at hH20
  refine RL.nil ?_
  refine CW.region ?_
  refine V (run_add e11_14 rfl (by omega)) ?_
  refine V (mV (I _) rfl) ?_
  refine RL.nil ?_
  refine ⟨(k + 1, _), ?_, fr14.u4.u4.u4.u1.u1, hH20, (congrArg I (by first | rfl | omega)), ?_, ?_, ?_⟩
  ·((try dsimp only); omega)
  ·omega
  ·omega
  ·rw [hr]; exact self_put h0
 ·refine CW.exit (id := 0) rfl ?_
  refine CW.seq ?_
  refine SR ?_
  refine V (fA underlying48 0 rfl sizeOf3 e3_14) ?_
  refine V (run_ld underlying3 rfl rfl (hH14.cell (i := 0) rfl (relC_N _))) ?_
  refine V (mV (I 0) rfl) ?_
  refine RL.nil ?_
  refine CW.block ?_
  refine CW.loop (G := (Int) × (Rl)) (fun (⟨m, r2⟩ : (Int) × (Rl)) s' w' => (Fr [5, 6, 26, 27, 28, 29, 30, 31, 32, 33, 34, 35, 36, 37, 38, 39, 40, 41, 42, 43, 44, 45, 46, 47, 48, 49, 50, 51, 52] _ s') ∧ (Hp w w' (.blk b11 (.cells (relC r2) 48 (0, 0)) :: _)) ∧ (s' 26 = I m) ∧ (0 ≤ m) ∧ (m ≤ pts r) ∧ (r2 = ⟨pts r, wall (pts r) (selfTo (plainR r).up (pts r)) m.toNat⟩)) (fun (⟨m, r2⟩ : (Int) × (Rl)) => (pts r - m).toNat) ((0, r1)) ⟨Fr.refl _ _, hH14, rfl, (by omega), (by omega), (by rw [hr, show k = pts r by omega]; rfl)⟩ ?_
  rintro ⟨m, r2⟩ sg21 w21 ⟨fr21, hH21, e26_21, m0, m1, hr2⟩
  have e2_21 := (fr21 2 rfl).trans e2_14
  have e3_21 := (fr21 3 rfl).trans e3_14
  have e25_21 : sg21 25 = I _ := (fr21 25 rfl).trans rfl
  have hn2 : r2.n = pts r := by rw [hr2]
  refine SR ?_
  refine V (run_lss e26_21 e25_21) ?_
  refine RL.nil ?_
  refine CW.seq ?_
  refine CW.condP rfl (fun h23 => ?_) (fun h23 => ?_)
  ·refine CW.skip ?_
   refine CW.seq ?_
   refine CW.block ?_
   refine SR ?_
   refine V (run_move e26_21) ?_
   refine V (aV (I _) rfl) ?_
   refine RL.nil ?_
   refine SR ?_
   refine V (fA underlying48 0 rfl sizeOf3 e3_21) ?_
   refine V (run_ld underlying3 rfl rfl (hH21.cell (i := 0) rfl (relC_N _))) ?_
   refine V (mV (I 0) rfl) ?_
   refine RL.nil ?_
   refine CW.block ?_
   refine CW.loop (G := (Int) × (Rl)) (fun (⟨i, r3⟩ : (Int) × (Rl)) s' w' => (Fr [6, 31, 32, 33, 34, 35, 36, 37, 38, 39, 40, 41, 42, 43, 44, 45, 46, 47, 48, 49, 50, 51] _ s') ∧ (Hp w w' (.blk b11 (.cells (relC r3) 48 (0, 0)) :: _)) ∧ (s' 31 = I i) ∧ (0 ≤ i) ∧ (i ≤ pts r) ∧ (r3 = ⟨pts r, passTo m.toNat i r2.up⟩)) (fun (⟨i, r3⟩ : (Int) × (Rl)) => (pts r - i).toNat) ((0, r2)) ⟨Fr.refl _ _, hH21, rfl, (by omega), (by omega), (by rw [hr2]; exact pass_zero _ _ _)⟩ ?_
   rintro ⟨i, r3⟩ sg24 w24 ⟨fr24, hH24, e31_24, i0, i1, hr3⟩
   have e2_24 := (fr24 2 rfl).trans e2_21
   have e3_24 := (fr24 3 rfl).trans e3_21
   have e5_24 : sg24 5 = I _ := (fr24 5 rfl).trans rfl
   have e25_24 := (fr24 25 rfl).trans e25_21
   have e26_24 := (fr24 26 rfl).trans e26_21
   have e27_24 : sg24 27 = B _ := (fr24 27 rfl).trans rfl
   have e28_24 : sg24 28 = I _ := (fr24 28 rfl).trans rfl
   have e29_24 : sg24 29 = Pn _ _ := (fr24 29 rfl).trans rfl
   have e30_24 : sg24 30 = I _ := (fr24 30 rfl).trans rfl
   have hn3 : r3.n = pts r := by rw [hr3]
   refine SR ?_
   refine V (run_lss e31_24 e30_24) ?_
   refine RL.nil ?_
   refine CW.seq ?_
   refine CW.condP rfl (fun h26 => ?_) (fun h26 => ?_)
   ·refine CW.skip ?_
    refine CW.seq ?_
    refine CW.block ?_
    refine SR ?_
    refine V (run_move e31_24) ?_
    refine V (aV (I _) rfl) ?_
    refine RL.nil ?_
    refine SR ?_
    refine V (mV (I _) rfl) ?_
    refine V (fA underlying48 1 rfl sizeOf46 e3_24) ?_
    refine V (run_indexAddrA underlying46 sizeOf32 rfl rfl (by first | omega | (dsimp only at *; omega))) ?_
    refine V (run_ld underlying32 rfl rfl (hH24.cell (i := 0) rfl (relC_up _ (by omega)))) ?_
    refine V (run_move e5_24) ?_
    refine RL.callP rfl hH24 (c_mask_Has _ _  _) (run_call2 call145 rfl rfl) ?_
    intro w27 hH28
    refine RL.nil ?_
    refine CW.cond rfl (fun h30 => ?_) (fun h30 => ?_)
    ·refine CW.regionS (by kernel_rfl) hH28 (sQ sR) ?_
     intro w31 hH32
     refine AT 0 rfl (hH32.sub (sQ sR)) (fun w hS => mV (I _) rfl) ?_
     refine AT 1 rfl (hH32.sub (sQ sR)) (fun w hS => fA underlying48 1 rfl sizeOf46 e3_24) ?_
     refine AT 2 rfl (hH32.sub (sQ sR)) (fun w hS => run_indexAddrA underlying46 sizeOf32 rfl rfl (by first | omega | (dsimp only at *; omega))) ?_
     refine AT 4 rfl (hH32.sub (sQ sR)) (fun w hS => run_move e5_24) ?_
     refine AT 5 rfl (hH32.sub (sQ sR)) (fun w hS => fA underlying48 1 rfl sizeOf46 e3_24) ?_
     refine AT 6 rfl (hH32.sub (sQ sR)) (fun w hS => run_indexAddrA underlying46 sizeOf32 rfl rfl (by first | omega | (dsimp only at *; omega))) ?_
     refine AT 9 rfl (hH32.sub (sQ sR)) (fun w hS => fA underlying48 1 rfl sizeOf46 e3_24) ?_
     refine AN.two 3 7 (by kernel_rfl) ?_ ?_
     ·refine AO.read rfl gnone rfl hH32 (sQ sR) (run_ld underlying32 rfl rfl (hH32.cell (i := 0) rfl (relC_up _ (by omega)))) ?_
      refine A1 7 ?_
      refine AO.read rfl gnone rfl hH32 (sQ sR) (run_ld underlying32 rfl rfl (hH32.cell (i := 0) rfl (relC_up _ (by omega)))) ?_
      refine AT 8 rfl (hH32.sub (sQ sR)) (fun w hS => run_orU rfl rfl) ?_
      refine AT 10 rfl (hH32.sub (sQ sR)) (fun w hS => run_indexAddrA underlying46 sizeOf32 rfl rfl (by first | omega | (dsimp only at *; omega))) ?_
      refine A1 11 ?_
      refine AO.set rfl gnone hH32 (j := 0) rfl (sQ sR) (run_st rfl rfl (v := U _) rfl rfl rfl (hH32.blk (i := 0) rfl) (by rw [relC_size]; omega)) ?_
      intro w39 hH40
      simp only [z0, z1] at hH40
      rw [relC_put] at hH40
      refine AD ?_
      refine CW.region ?_
      refine V (run_add e31_24 rfl (by omega)) ?_
      refine V (mV (I _) rfl) ?_
      refine RL.nil ?_
      refine ⟨(i + 1, _), ?_, fr24.u4.u4.u4.u4.u4.u1.u1, hH40, (congrArg I (by first | rfl | omega)), ?_, ?_, ?_⟩
      ·((try dsimp only); omega)
      ·omega
      ·omega
      ·first | (rw [hr3] at *; exact pass_yes m0 i0 ‹_›) | (rw [hr3] at *; exact pass_not ⟨m0, by omega⟩ i0 ‹_›)
     ·refine AO.read rfl gnone rfl hH32 (sQ sR) (run_ld underlying32 rfl rfl (hH32.cell (i := 0) rfl (relC_up _ (by omega)))) ?_
      refine A1 3 ?_
      refine AO.read rfl gnone rfl hH32 (sQ sR) (run_ld underlying32 rfl rfl (hH32.cell (i := 0) rfl (relC_up _ (by omega)))) ?_
      refine AT 8 rfl (hH32.sub (sQ sR)) (fun w hS => run_orU rfl rfl) ?_
      refine AT 10 rfl (hH32.sub (sQ sR)) (fun w hS => run_indexAddrA underlying46 sizeOf32 rfl rfl (by first | omega | (dsimp only at *; omega))) ?_
      refine A1 11 ?_
      refine AO.set rfl gnone hH32 (j := 0) rfl (sQ sR) (run_st rfl rfl (v := U _) rfl rfl rfl (hH32.blk (i := 0) rfl) (by rw [relC_size]; omega)) ?_
      intro w47 hH48
      simp only [z0, z1] at hH48
      rw [relC_put] at hH48
      refine AD ?_
      refine CW.region ?_
      refine V (run_add e31_24 rfl (by omega)) ?_
      refine V (mV (I _) rfl) ?_
      refine RL.nil ?_
      refine ⟨(i + 1, _), ?_, fr24.u4.u4.u4.u4.u4.u1.u1, hH48, (congrArg I (by first | rfl | omega)), ?_, ?_, ?_⟩
      ·((try dsimp only); omega)
      ·omega
      ·omega
      ·first | (rw [hr3] at *; exact pass_yes m0 i0 ‹_›) | (rw [hr3] at *; exact pass_not ⟨m0, by omega⟩ i0 ‹_›)
    ·refine CW.skip ?_
     refine CW.region ?_
     refine V (run_add e31_24 rfl (by omega)) ?_
     refine V (mV (I _) rfl) ?_
     refine RL.nil ?_
     refine ⟨(i + 1, _), ?_, fr24.u4.u4.u1.u1.u1, hH28, (congrArg I (by first | rfl | omega)), ?_, ?_, ?_⟩
     ·((try dsimp only); omega)
     ·omega
     ·omega
     ·first | (rw [hr3] at *; exact pass_yes m0 i0 ‹_›) | (rw [hr3] at *; exact pass_not ⟨m0, by omega⟩ i0 ‹_›)
   ·refine CW.exit (id := 4) rfl ?_
    refine CW.region ?_
    refine V (run_add e26_24 rfl (by omega)) ?_
    refine V (mV (I _) rfl) ?_
    refine RL.nil ?_
    refine ⟨(m + 1, _), ?_, (((fr21.u4.u1.u1).t fr24 rfl)).u1.u1.u1, hH24, (congrArg I (by first | rfl | omega)), ?_, ?_, ?_⟩
    ·((try dsimp only); omega)
    ·omega
    ·omega
    ·rw [hr3, hr2, show i = pts r by omega]; exact wall_next m0
  ·refine CW.exit (id := 2) rfl ?_
   refine SR ?_
   refine V (run_ldRel underlying48 rfl rfl e3_21 (hH21.blk (i := 0) rfl)) ?_
   refine RL.set hH21 (i := 1) rfl (run_stRel rfl e2_21 rfl (hH21.blk (i := 1) rfl)) ?_
   intro w49 hH50
   simp only [z0, z1] at hH50
   refine RL.nil ?_
   refine CW.ret ?_
   refine outC Tryz.results138 e2_21 hH50 (i := 1) rfl underlying48 rfl rfl ⟨?_, hH50.below⟩
   (rw [hr2, show m = pts r by omega]; rfl)

theorem c_clearanceref03_Reach (r : Rl) (i : Int) (w : World) : Calls Tryz.prog 144 #[.agg (relC r), I i] w (PureRow 3 1 (reachL r i).length ((reachL r i).map I) w) := by
 have hp := pts_bd r
 refine enter Tryz.func144 rfl Tryz.ntmps144 rfl ?_
 have hH := Hp.start w
 refine SR ?_
 refine RL.new rfl hH (f := fun b => (.pointer (some ⟨b, 0, none⟩))) (run_box (v := .agg _) rfl) ?_
 intro b3 w1 hH2
 refine V (aV (.slice none 0 0) rfl) ?_
 have hH4 := hH2.nilRow 3 1
 refine RL.nil ?_
 refine CW.seq ?_
 refine SR ?_
 refine V (mV (I _) rfl) ?_
 refine V (run_lss rfl rfl) ?_
 refine V (mV (B _) rfl) ?_
 refine RL.splitP (dj := 10) rfl (fun h6 => ?_) (fun h6 => ?_)
 ·refine RL.gF rfl rfl (bT h6) rfl ?_
  refine RL.gF rfl rfl (bT h6) rfl ?_
  refine RL.gF rfl rfl (bT h6) rfl ?_
  refine RL.gF rfl rfl (bT h6) rfl ?_
  refine V (run_pickT (bT h6) (v := B true) rfl) ?_
  refine RL.nil ?_
  refine CW.condT rfl ?_
  refine SR ?_
  refine V (aV (.slice none 0 0) rfl) ?_
  have hH7 := hH4.nilRow 3 1
  refine RL.nil ?_
  refine CW.ret ?_
  exact outR Tryz.results144 rfl hH7 (i := 0) rfl (by first | (rw [reach_nil (by omega)]; rfl) | rw [← hl, bfs_end a0 ‹_›]) (by first | (rw [reach_nil (by omega)]; rfl) | rw [← hl, bfs_end a0 ‹_›])
 ·refine RL.gT rfl (bF h6) ?_
  refine V (mV (I _) rfl) ?_
  refine RL.gT rfl (bF h6) ?_
  refine V (run_ldRel underlying48 rfl rfl rfl (hH4.blk (i := 1) rfl)) ?_
  refine RL.gT rfl (bF h6) ?_
  refine RL.callP rfl hH4 (c_clearanceref03_Points _  _) (run_call1 call73 rfl) ?_
  intro w8 hH9
  refine RL.gT rfl (bF h6) ?_
  refine V (run_geq rfl rfl) ?_
  refine V (run_pickF (bF h6) (v := B _) rfl) ?_
  refine RL.nil ?_
  refine CW.condP rfl (fun h11 => ?_) (fun h11 => ?_)
  ·refine SR ?_
   refine V (aV (.slice none 0 0) rfl) ?_
   have hH12 := hH9.nilRow 3 1
   refine RL.nil ?_
   refine CW.ret ?_
   exact outR Tryz.results144 rfl hH12 (i := 0) rfl (by first | (rw [reach_nil (by omega)]; rfl) | rw [← hl, bfs_end a0 ‹_›]) (by first | (rw [reach_nil (by omega)]; rfl) | rw [← hl, bfs_end a0 ‹_›])
  ·refine CW.skip ?_
   refine SR ?_
   refine V (mV (I _) rfl) ?_
   refine RL.new rfl hH9 (f := fun b => (.slice (some ⟨b, 0, none⟩) 1 1)) (run_mkL underlying82 rfl rfl (sz := 1) (vs := [I _]) rfl rfl (by decide) (by decide) rfl rfl) ?_
   intro b15 w13 hH14
   (try simp only [List.flatMap_cons, List.flatMap_nil, clI, clB, clS, clP, clL, clA, List.append_nil, List.cons_append, List.nil_append] at hH14)
   have hH16 := hH14.blkRow 1 1 rfl (by decide)
   refine V (run_assign (by conv => lhs; whnf)) ?_
   refine RL.nil ?_
   refine CW.seq ?_
   refine SR ?_
   refine V (aV (I 0) rfl) ?_
   refine RL.nil ?_
   refine CW.block ?_
   refine CW.loop (G := (Int) × (List Int) × (Value)) (fun (⟨a, l, v5⟩ : (Int) × (List Int) × (Value)) s' w' => (Fr [5, 6, 7, 18, 19, 20, 21, 22, 23, 24, 25, 26, 27, 28, 29, 30, 31, 32, 33, 34, 35, 36, 37, 38, 39, 40, 41, 42, 43, 44, 45, 46] _ s') ∧ (Hp w w' (.row v5 3 1 (l.length) (l.map I) :: _)) ∧ (s' 5 = v5) ∧ (s' 6 = I a) ∧ (0 ≤ a) ∧ (a ≤ l.length) ∧ (Okl r l) ∧ (bfs r (65 - a.toNat) a.toNat l = reachL r i)) (fun (⟨a, l, v5⟩ : (Int) × (List Int) × (Value)) => ((65 : Int) - a).toNat) ((0, [i], (.slice (some ⟨b15, 0, none⟩) 1 1 : Value))) ⟨Fr.refl _ _, hH16, rfl, rfl, (by omega), (by simp), Okl.one (by omega), (by rw [reachL, if_pos (isP_iff.2 (by omega))]; rfl)⟩ ?_
   rintro ⟨a, l, v5⟩ sg17 w17 ⟨fr17, hH17, e5_17, e6_17, a0, a1, hok, hl⟩
   have e2_17 : sg17 2 = Pn _ _ := (fr17 2 rfl).trans rfl
   have e4_17 := (fr17 4 rfl).trans (by conv => lhs; whnf)
   refine CW.seq ?_
   refine SR ?_
   refine V (run_move e6_17) ?_
   refine V (run_move e5_17) ?_
   refine V (run_lenSl (hH17.sl (i := 0) rfl) rfl underlying82 rfl) ?_
   refine V (run_lss rfl rfl) ?_
   refine RL.nil ?_
   refine CW.condP rfl (fun h19 => ?_) (fun h19 => ?_)
   ·refine CW.skip ?_
    refine CW.seq ?_
    refine CW.block ?_
    refine SR ?_
    refine V (aV (I 0) rfl) ?_
    refine RL.nil ?_
    refine CW.block ?_
    refine CW.loop (G := (Int) × (List Int) × (Value)) (fun (⟨b, l2, v5⟩ : (Int) × (List Int) × (Value)) s' w' => (Fr [5, 7, 24, 25, 26, 27, 28, 29, 30, 31, 32, 33, 34, 35, 36, 37, 38, 39, 40, 41, 42, 43, 44, 45, 46] _ s') ∧ (Hp w w' (.row v5 3 1 (l2.length) (l2.map I) :: _)) ∧ (s' 5 = v5) ∧ (s' 7 = I b) ∧ (0 ≤ b) ∧ (b ≤ pts r) ∧ (l2 = scan r (l.getD a.toNat 0) l b.toNat) ∧ (Okl r l2) ∧ (l.length ≤ l2.length) ∧ (l2.getD a.toNat 0 = l.getD a.toNat 0)) (fun (⟨b, l2, v5⟩ : (Int) × (List Int) × (Value)) => (pts r - b).toNat) ((0, l, (v5 : Value))) ⟨Fr.refl _ _, hH17, e5_17, rfl, (by omega), (by omega), rfl, hok, Nat.le_refl _, rfl⟩ ?_
    rintro ⟨b, l2, v5⟩ sg20 w20 ⟨fr20, hH20, e5_20, e7_20, b0, b1, h2, hok2, hle, hget⟩
    have e2_20 := (fr20 2 rfl).trans e2_17
    have e4_20 := (fr20 4 rfl).trans e4_17
    have e6_20 := (fr20 6 rfl).trans e6_17
    have e18_20 : sg20 18 = I _ := (fr20 18 rfl).trans rfl
    have e19_20 := (fr20 19 rfl).trans (by conv => lhs; whnf)
    have e20_20 : sg20 20 = I _ := (fr20 20 rfl).trans rfl
    have e21_20 : sg20 21 = B _ := (fr20 21 rfl).trans rfl
    refine CW.seq ?_
    refine SR ?_
    refine V (run_move e7_20) ?_
    refine V (run_ldRel underlying48 rfl rfl e2_20 (hH20.blk (i := 2) rfl)) ?_
    refine RL.callP rfl hH20 (c_clearanceref03_Points _  _) (run_call1 call73 rfl) ?_
    intro w21 hH22
    refine V (run_lss rfl rfl) ?_
    refine RL.nil ?_
    refine CW.condP rfl (fun h24 => ?_) (fun h24 => ?_)
    ·refine CW.skip ?_
     refine CW.seq ?_
     refine CW.block ?_
     refine CW.seq ?_
     refine CW.regionD (by kernel_rfl) hH22 ?_
     intro w25 hH26
     refine AT 0 rfl (hH26.sub sR) (fun w hS => run_ldRel underlying48 rfl rfl e2_20 (hS.blk (i := 2) rfl)) ?_
     refine AT 1 rfl (hH26.sub sR) (fun w hS => run_move e5_20) ?_
     refine AT 2 rfl (hH26.sub sR) (fun w hS => run_move e6_20) ?_
     refine AT 3 rfl (hH26.sub sR) (fun w hS => run_indexAddrS (hS.sl (i := 0) rfl) underlying82 sizeOf3 rfl rfl (by omega)) ?_
     refine AT 4 rfl (hH26.sub sR) (fun w hS => run_ld underlying3 rfl rfl ((hS.sl (i := 0) rfl).cell _ _ (map_at (by omega)))) ?_
     refine AT 5 rfl (hH26.sub sR) (fun w hS => run_move e7_20) ?_
     refine A1 6 ?_
     refine AO.callP rfl gnone rfl hH26 sR (c_clearanceref03_Has r (l2.getD a.toNat 0) b _) (run_call3 call94 rfl rfl rfl) ?_
     intro w27 hH28
     refine AT 7 rfl (hH28.sub sR) (fun w hS => mV (B _) rfl) ?_
     refine AN.split (dj := 37) rfl (fun h30 => ?_) (fun h30 => ?_)
     ·refine AG 8 rfl rfl (bR (c := true) h30) (hH28.sub sR) (fun w hS => run_move e5_20) ?_
      refine AG 9 rfl rfl (bR (c := true) h30) (hH28.sub sR) (fun w hS => run_move e7_20) ?_
      refine A1 10 ?_
      refine AO.callP rfl (gsome rfl (bR (c := true) h30)) rfl hH28 sR (c_clearanceref03_In _ _ _  _ (hH28.sl (i := 0) rfl)) (run_call2 call146 rfl rfl) ?_
      intro w31 hH32
      refine AG 11 rfl rfl (bR (c := true) h30) (hH32.sub sR) (fun w hS => run_not rfl) ?_
      refine AT 12 rfl (hH32.sub sR) (fun w hS => run_pickT (bR (c := true) h30) (v := B _) rfl) ?_
      refine AD ?_
      refine CW.cond rfl (fun h35 => ?_) (fun h35 => ?_)
      ·refine CW.region ?_
       refine V (run_move e5_20) ?_
       refine V (run_move e7_20) ?_
       refine RL.new rfl hH32 (f := fun b => (.slice (some ⟨b, 0, none⟩) 1 1)) (run_mkL underlying82 rfl rfl (sz := 1) (vs := [I _]) rfl rfl (by decide) (by decide) rfl rfl) ?_
       intro b38 w36 hH37
       (try simp only [List.flatMap_cons, List.flatMap_nil, clI, clB, clS, clP, clL, clA, List.append_nil, List.cons_append, List.nil_append] at hH37)
       refine RL.app rfl hH37 (i := 1) rfl (hH37.slBlk (i := 0) (n := 1) (sz := 1) rfl rfl (by decide)) rfl rfl underlying82 rfl rfl (size := 1) (bytes := 8) rfl rfl rfl (by decide) (by simp [Value.oneCell']) (by have := hok2.len; omega) (by have := hok2.len; simp only [maxLen]; omega) ?_
       intro v39 w40 hH41
       simp only [z0, z1] at hH41
       refine V (run_assign (by conv => lhs; whnf)) ?_
       refine RL.nil ?_
       refine CW.region ?_
       refine V (run_move e7_20) ?_
       refine V (run_add rfl rfl (by first | omega | (have := hok.len; omega))) ?_
       refine V (aV (I _) rfl) ?_
       refine RL.nil ?_
       refine ⟨(b + 1, l2 ++ [b], v39), ?_, fr20.u4.u4.u4.u4.u4.u4.u1, (Hp.conv (hH41.sub (sQ sR)) (by first | rfl | simp)), rfl, (congrArg I (by first | rfl | omega)), ?_, ?_, ?_, ?_, ?_, ?_⟩
       ·((try dsimp only); omega)
       ·omega
       ·omega
       ·rw [hget] at *; first | (rw [h2] at *; exact scan_yes b0 ‹_› (nt ‹_›)) | (rw [h2] at *; exact scan_no1 b0 ‹_›) | (rw [h2] at *; exact scan_no2 b0 (nf ‹_›))
       ·first | exact hok2 | exact hok2.add ⟨b0, ‹_›⟩ (nt ‹_›)
       ·first | exact hle | (simp; omega)
       ·first | exact hget | (rw [← hget, List.getD_eq_getElem?_getD, List.getD_eq_getElem?_getD, List.getElem?_append_left (by omega)])
      ·refine CW.skip ?_
       refine CW.region ?_
       refine V (run_move e7_20) ?_
       refine V (run_add rfl rfl (by first | omega | (have := hok.len; omega))) ?_
       refine V (aV (I _) rfl) ?_
       refine RL.nil ?_
       refine ⟨(b + 1, l2, v5), ?_, fr20.u4.u4.u4.u4.u4, (Hp.conv hH32 (by first | rfl | simp)), e5_20, (congrArg I (by first | rfl | omega)), ?_, ?_, ?_, ?_, ?_, ?_⟩
       ·((try dsimp only); omega)
       ·omega
       ·omega
       ·rw [hget] at *; first | (rw [h2] at *; exact scan_yes b0 ‹_› (nt ‹_›)) | (rw [h2] at *; exact scan_no1 b0 ‹_›) | (rw [h2] at *; exact scan_no2 b0 (nf ‹_›))
       ·first | exact hok2 | exact hok2.add ⟨b0, ‹_›⟩ (nt ‹_›)
       ·first | exact hle | (simp; omega)
       ·first | exact hget | (rw [← hget, List.getD_eq_getElem?_getD, List.getD_eq_getElem?_getD, List.getElem?_append_left (by omega)])
     ·refine AK 8 rfl rfl (bR (c := false) h30) (hH28.sub sR) ?_
      refine AK 9 rfl rfl (bR (c := false) h30) (hH28.sub sR) ?_
      refine AK 10 rfl rfl (bR (c := false) h30) (hH28.sub sR) ?_
      refine AK 11 rfl rfl (bR (c := false) h30) (hH28.sub sR) ?_
      refine AT 12 rfl (hH28.sub sR) (fun w hS => run_pickF (bR (c := false) h30) (v := B false) rfl) ?_
      refine AD ?_
      refine CW.condF rfl ?_
      refine CW.skip ?_
      refine CW.region ?_
      refine V (run_move e7_20) ?_
      refine V (run_add rfl rfl (by first | omega | (have := hok.len; omega))) ?_
      refine V (aV (I _) rfl) ?_
      refine RL.nil ?_
      refine ⟨(b + 1, l2, v5), ?_, fr20.u4.u4.u4.u4.u4, (Hp.conv hH28 (by first | rfl | simp)), e5_20, (congrArg I (by first | rfl | omega)), ?_, ?_, ?_, ?_, ?_, ?_⟩
      ·((try dsimp only); omega)
      ·omega
      ·omega
      ·rw [hget] at *; first | (rw [h2] at *; exact scan_yes b0 ‹_› (nt ‹_›)) | (rw [h2] at *; exact scan_no1 b0 ‹_›) | (rw [h2] at *; exact scan_no2 b0 (nf ‹_›))
      ·first | exact hok2 | exact hok2.add ⟨b0, ‹_›⟩ (nt ‹_›)
      ·first | exact hle | (simp; omega)
      ·first | exact hget | (rw [← hget, List.getD_eq_getElem?_getD, List.getD_eq_getElem?_getD, List.getElem?_append_left (by omega)])
    ·refine CW.exit (id := 2) rfl ?_
     refine CW.region ?_
     refine V (run_move e6_20) ?_
     refine V (run_add rfl rfl (by first | omega | (have := hok.len; omega))) ?_
     refine V (aV (I _) rfl) ?_
     refine RL.nil ?_
     refine ⟨(a + 1, l2, v5), ?_, (((fr17.u4.u1).t fr20 rfl)).u4.u1.u1.u1, (Hp.conv hH22 (by first | rfl | simp)), e5_20, (congrArg I (by first | rfl | omega)), ?_, ?_, ?_, ?_⟩
     ·have := hok.len; (try dsimp only); omega
     ·omega
     ·omega
     ·exact hok2
     ·(rw [h2, show b = pts r by omega, ← bfs_step a0 ‹_› hok.len]; exact hl)
   ·refine CW.exit (id := 0) rfl ?_
    refine SR ?_
    refine V (run_move e5_17) ?_
    refine V (run_assign (by conv => lhs; whnf)) ?_
    refine RL.nil ?_
    refine CW.ret ?_
    exact outR Tryz.results144 rfl hH17 (i := 0) rfl (by first | (rw [reach_nil (by omega)]; rfl) | rw [← hl, bfs_end a0 ‹_›]) (by first | (rw [reach_nil (by omega)]; rfl) | rw [← hl, bfs_end a0 ‹_›])

theorem c_clearanceref03_Closure (r : Rl) (w : World) : Calls Tryz.prog 132 #[.agg (relC r)] w (Pure (.agg (relC (cloR r))) w) := by
 have hp := pts_bd r
 refine enter Tryz.func132 rfl Tryz.ntmps132 rfl ?_
 have hH := Hp.start w
 refine SR ?_
 refine RL.new rfl hH (f := fun b => (.pointer (some ⟨b, 0, none⟩))) (run_box (v := .agg _) rfl) ?_
 intro b3 w1 hH2
 refine RL.new rfl hH2 (f := fun b => (.pointer (some ⟨b, 0, none⟩))) (run_alloc zero_rel) ?_
 intro b6 w4 hH5
 refine RL.nil ?_
 refine SR ?_
 refine V (run_ldRel underlying48 rfl rfl rfl (hH5.blk (i := 1) rfl)) ?_
 refine RL.callP rfl hH5 (c_clearanceref03_Points _  _) (run_call1 call73 rfl) ?_
 intro w7 hH8
 refine V (run_bld (vs := [(0, I _)]) rfl (built_rel _)) ?_
 refine RL.new rfl hH8 (f := fun b => (.pointer (some ⟨b, 0, none⟩))) (run_alloc zero_rel) ?_
 intro b11 w9 hH10
 refine RL.set hH10 (i := 0) rfl (run_stRel rfl rfl rfl (hH10.blk (i := 0) rfl)) ?_
 intro w12 hH13
 simp only [z0, z1] at hH13
 refine RL.nil ?_
 refine CW.seq ?_
 refine SR ?_
 refine V (aV (I 0) rfl) ?_
 refine RL.nil ?_
 refine CW.block ?_
 have hz : (⟨pts r, fun _ => 0#64⟩ : Rl).n = pts r := rfl
 refine CW.loop (G := (Int) × (Rl)) (fun (⟨k, r1⟩ : (Int) × (Rl)) s' w' => (Fr [4, 8, 9, 10, 11, 12, 13, 14, 15, 16, 17, 18, 19, 20] _ s') ∧ (Hp w w' (.blk b11 (.cells (relC r1) 48 (0, 0)) :: _)) ∧ (s' 4 = I k) ∧ (0 ≤ k) ∧ (k ≤ pts r) ∧ (r1 = fillR (pts r) (fun i => ofl (reachL r i)) k)) (fun (⟨k, r1⟩ : (Int) × (Rl)) => (pts r - k).toNat) ((0, ⟨pts r, fun _ => 0#64⟩)) ⟨Fr.refl _ _, hH13, rfl, (by omega), (by omega), fill_zero _ _⟩ ?_
 rintro ⟨k, r1⟩ sg14 w14 ⟨fr14, hH14, e4_14, h0, hk, hr⟩
 have e1_14 : sg14 1 = Pn _ _ := (fr14 1 rfl).trans rfl
 have e2_14 : sg14 2 = Pn _ _ := (fr14 2 rfl).trans rfl
 have e3_14 : sg14 3 = Pn _ _ := (fr14 3 rfl).trans rfl
 have hn : r1.n = pts r := by rw [hr]; rfl
 refine CW.seq ?_
 refine SR ?_
 refine V (run_move e4_14) ?_
 refine V (fA underlying48 0 rfl sizeOf3 e3_14) ?_
 refine V (run_ld underlying3 rfl rfl (hH14.cell (i := 0) rfl (relC_N _))) ?_
 refine V (run_lss rfl rfl) ?_
 refine RL.nil ?_
 refine CW.condP rfl (fun h16 => ?_) (fun h16 => ?_)
 ·refine CW.skip ?_
  refine CW.seq ?_
  refine CW.block ?_
  refine CW.region ?_
  refine V (run_move e4_14) ?_
  refine V (run_ldRel underlying48 rfl rfl e1_14 (hH14.blk (i := 2) rfl)) ?_
  refine V (run_move e4_14) ?_
  refine RL.callR rfl hH14 (c_clearanceref03_Reach _ _  _) (run_call2 call144 rfl rfl) ?_
  intro v19 w17 hH18
  refine RL.callP rfl hH18 (c_clearanceref01_Of _ _  _ (hH18.sl (i := 0) rfl)) (run_call1 call92 rfl) ?_
  intro w20 hH21
  refine V (fA underlying48 1 rfl sizeOf46 e3_14) ?_
  refine V (run_indexAddrA underlying46 sizeOf32 rfl rfl (by first | omega | (dsimp only at *; omega))) ?_
  refine RL.set hH21 (i := 1) rfl (run_st rfl rfl (v := U _) rfl rfl rfl (hH21.blk (i := 1) rfl) (by rw [relC_size]; omega)) ?_
  intro w22 hH23
  simp only [z0, z1] at hH23
  rw [relC_put] at hH23
  refine RL.nil ?_
  refine CW.region ?_
  refine V (run_move e4_14) ?_
  refine V (run_add rfl rfl (by omega)) ?_
  refine V (aV (I _) rfl) ?_
  refine RL.nil ?_
  refine ⟨(k + 1, _), ?_, fr14.u4.u4.u4.u1.u1, (hH23.sub (sQ sR)), (congrArg I (by first | rfl | omega)), ?_, ?_, ?_⟩
  ·((try dsimp only); omega)
  ·omega
  ·omega
  ·rw [hr]; exact fill_put h0 (by rw [Int.toNat_of_nonneg h0])
 ·refine CW.exit (id := 0) rfl ?_
  refine SR ?_
  refine V (run_ldRel underlying48 rfl rfl e3_14 (hH14.blk (i := 0) rfl)) ?_
  refine RL.set hH14 (i := 1) rfl (run_stRel rfl e2_14 rfl (hH14.blk (i := 1) rfl)) ?_
  intro w24 hH25
  simp only [z0, z1] at hH25
  refine RL.nil ?_
  refine CW.ret ?_
  refine outC Tryz.results132 e2_14 hH25 (i := 1) rfl underlying48 rfl rfl ⟨?_, hH25.below⟩
  (rw [hr, show k = pts r by omega, clo_ref])

theorem c_relate_Same (a b : Rl) (w : World) : Calls Tryz.prog 83 #[.agg (relC a), .agg (relC b)] w (Pure (B (decide ((plainR a).eq (plainR b)))) w) := by
 refine enter Tryz.func83 rfl Tryz.ntmps83 rfl ?_
 have hH := Hp.start w
 refine SR ?_
 refine RL.new rfl hH (f := fun b => (.pointer (some ⟨b, 0, none⟩))) (run_box (v := .agg _) rfl) ?_
 intro b3 w1 hH2
 refine RL.new rfl hH2 (f := fun b => (.pointer (some ⟨b, 0, none⟩))) (run_box (v := .agg _) rfl) ?_
 intro b6 w4 hH5
 refine V (aV (B false) rfl) ?_
 refine RL.nil ?_
 refine CW.seq ?_
 refine CW.regionD (by kernel_rfl) hH5 ?_
 intro w7 hH8
 refine AT 0 rfl (hH8.sub sR) (fun w hS => run_ldRel underlying48 rfl rfl rfl (hS.blk (i := 1) rfl)) ?_
 refine AT 2 rfl (hH8.sub sR) (fun w hS => run_ldRel underlying48 rfl rfl rfl (hS.blk (i := 0) rfl)) ?_
 refine A1 1 ?_
 refine AO.callP rfl gnone rfl hH8 sR (c_relate_plain _  _) (run_call1 call114 rfl) ?_
 intro w9 hH10
 refine A1 3 ?_
 refine AO.callP rfl gnone rfl hH10 sR (c_relate_plain _  _) (run_call1 call114 rfl) ?_
 intro w11 hH12
 refine AT 4 rfl (hH12.sub sR) (fun w hS => run_eqlRel relT_fact rfl rfl) ?_
 refine AT 5 rfl (hH12.sub sR) (fun w hS => aV (B _) rfl) ?_
 refine AD ?_
 refine CW.ret ?_
 refine outP1 Tryz.results83 (congrArg B ?_) hH12.below
 rfl

theorem c_clearanceref03_Same (a b : Rl) (w : World) : Calls Tryz.prog 131 #[.agg (relC a), .agg (relC b)] w (Pure (B (decide ((plainR a).eq (plainR b)))) w) := by
 refine enter Tryz.func131 rfl Tryz.ntmps131 rfl ?_
 have hH := Hp.start w
 refine SR ?_
 refine RL.new rfl hH (f := fun b => (.pointer (some ⟨b, 0, none⟩))) (run_box (v := .agg _) rfl) ?_
 intro b3 w1 hH2
 refine RL.new rfl hH2 (f := fun b => (.pointer (some ⟨b, 0, none⟩))) (run_box (v := .agg _) rfl) ?_
 intro b6 w4 hH5
 refine V (aV (B false) rfl) ?_
 refine RL.nil ?_
 refine CW.seq ?_
 refine CW.regionD (by kernel_rfl) hH5 ?_
 intro w7 hH8
 refine AT 0 rfl (hH8.sub sR) (fun w hS => run_ldRel underlying48 rfl rfl rfl (hS.blk (i := 1) rfl)) ?_
 refine AT 2 rfl (hH8.sub sR) (fun w hS => run_ldRel underlying48 rfl rfl rfl (hS.blk (i := 0) rfl)) ?_
 refine A1 1 ?_
 refine AO.callP rfl gnone rfl hH8 sR (c_clearanceref03_Plain _  _) (run_call1 call143 rfl) ?_
 intro w9 hH10
 refine A1 3 ?_
 refine AO.callP rfl gnone rfl hH10 sR (c_clearanceref03_Plain _  _) (run_call1 call143 rfl) ?_
 intro w11 hH12
 refine AT 4 rfl (hH12.sub sR) (fun w hS => run_eqlRel relT_fact rfl rfl) ?_
 refine AT 5 rfl (hH12.sub sR) (fun w hS => aV (B _) rfl) ?_
 refine AD ?_
 refine CW.ret ?_
 refine outP1 Tryz.results131 (congrArg B ?_) hH12.below
 rfl

theorem c_relate_Closed (r : Rl) (w : World) : Calls Tryz.prog 115 #[.agg (relC r)] w (Pure (B (decide ((plainR r).eq (cloR r)))) w) := by
 refine enter Tryz.func115 rfl Tryz.ntmps115 rfl ?_
 have hH := Hp.start w
 refine SR ?_
 refine RL.new rfl hH (f := fun b => (.pointer (some ⟨b, 0, none⟩))) (run_box (v := .agg _) rfl) ?_
 intro b3 w1 hH2
 refine V (aV (B false) rfl) ?_
 refine RL.nil ?_
 refine CW.seq ?_
 refine CW.regionD (by kernel_rfl) hH2 ?_
 intro w4 hH5
 refine AT 0 rfl (hH5.sub sR) (fun w hS => run_ldRel underlying48 rfl rfl rfl (hS.blk (i := 0) rfl)) ?_
 refine AT 2 rfl (hH5.sub sR) (fun w hS => run_ldRel underlying48 rfl rfl rfl (hS.blk (i := 0) rfl)) ?_
 refine A1 1 ?_
 refine AO.callP rfl gnone rfl hH5 sR (c_relate_plain _  _) (run_call1 call114 rfl) ?_
 intro w6 hH7
 refine A1 3 ?_
 refine AO.callP rfl gnone rfl hH7 sR (c_relate_Closure _  _) (run_call1 call138 rfl) ?_
 intro w8 hH9
 refine AT 4 rfl (hH9.sub sR) (fun w hS => run_eqlRel relT_fact rfl rfl) ?_
 refine AT 5 rfl (hH9.sub sR) (fun w hS => aV (B _) rfl) ?_
 refine AD ?_
 refine CW.ret ?_
 refine outP1 Tryz.results115 (congrArg B ?_) hH9.below
 rfl

theorem c_clearanceref03_Closed (r : Rl) (w : World) : Calls Tryz.prog 108 #[.agg (relC r)] w (Pure (B (decide ((plainR r).eq (cloR r)))) w) := by
 refine enter Tryz.func108 rfl Tryz.ntmps108 rfl ?_
 have hH := Hp.start w
 refine SR ?_
 refine RL.new rfl hH (f := fun b => (.pointer (some ⟨b, 0, none⟩))) (run_box (v := .agg _) rfl) ?_
 intro b3 w1 hH2
 refine V (aV (B false) rfl) ?_
 refine RL.nil ?_
 refine CW.seq ?_
 refine CW.regionD (by kernel_rfl) hH2 ?_
 intro w4 hH5
 refine AT 0 rfl (hH5.sub sR) (fun w hS => run_ldRel underlying48 rfl rfl rfl (hS.blk (i := 0) rfl)) ?_
 refine AT 1 rfl (hH5.sub sR) (fun w hS => run_ldRel underlying48 rfl rfl rfl (hS.blk (i := 0) rfl)) ?_
 refine A1 2 ?_
 refine AO.callP rfl gnone rfl hH5 sR (c_clearanceref03_Closure _  _) (run_call1 call132 rfl) ?_
 intro w6 hH7
 refine A1 3 ?_
 refine AO.callP rfl gnone rfl hH7 sR (c_clearanceref03_Same _ _  _) (run_call2 call131 rfl rfl) ?_
 intro w8 hH9
 refine AT 4 rfl (hH9.sub sR) (fun w hS => aV (B _) rfl) ?_
 refine AD ?_
 refine CW.ret ?_
 refine outP1 Tryz.results108 (congrArg B ?_) hH9.below
 rw [plain_clo]

theorem c_relate_New (n : Int) (w : World) : Calls Tryz.prog 100 #[I n] w (Pure (.agg (relC (newR n))) w) := by
 refine enter Tryz.func100 rfl Tryz.ntmps100 rfl ?_
 have hH := Hp.start w
 refine SR ?_
 refine RL.new rfl hH (f := fun b => (.pointer (some ⟨b, 0, none⟩))) (run_alloc zero_rel) ?_
 intro b3 w1 hH2
 refine RL.nil ?_
 refine SR ?_
 refine V (mV (I _) rfl) ?_
 refine V (run_bld (vs := [(0, I _)]) rfl (built_rel _)) ?_
 refine RL.callP rfl hH2 (c_relate_points _  _) (run_call1 call128 rfl) ?_
 intro w4 hH5
 refine V (run_bld (vs := [(0, I _)]) rfl (built_rel _)) ?_
 refine RL.set hH5 (i := 0) rfl (run_stRel rfl rfl rfl (hH5.blk (i := 0) rfl)) ?_
 intro w6 hH7
 simp only [z0, z1] at hH7
 refine RL.nil ?_
 refine CW.ret ?_
 refine outC Tryz.results100 rfl hH7 (i := 0) rfl underlying48 rfl rfl ⟨?_, hH7.below⟩
 rfl

theorem c_relate_mutual (r : Rl) (i : Int) (w : World) (hT : Tab w) : Calls Tryz.prog 139 #[.agg (relC r), I i] w (Pure (U (mutualR r i)) w) := by
 refine enter Tryz.func139 rfl Tryz.ntmps139 rfl ?_
 have hH := Hp.start w
 refine SR ?_
 refine RL.new rfl hH (f := fun b => (.pointer (some ⟨b, 0, none⟩))) (run_box (v := .agg _) rfl) ?_
 intro b3 w1 hH2
 refine V (aV (U 0#64) rfl) ?_
 refine RL.nil ?_
 refine SR ?_
 refine V (mV (I _) rfl) ?_
 refine RL.new rfl hH2 (f := fun b => (.slice (some ⟨b, 0, none⟩) 1 1)) (run_mkL underlying82 rfl rfl (sz := 1) (vs := [I _]) rfl rfl (by decide) (by decide) rfl rfl) ?_
 intro b6 w4 hH5
 (try simp only [List.flatMap_cons, List.flatMap_nil, clI, clB, clS, clP, clL, clA, List.append_nil, List.cons_append, List.nil_append] at hH5)
 refine RL.callP rfl hH5 (c_mask_Of _ [i] _ (hH5.slBlk (i := 0) (n := 1) (sz := 1) rfl rfl (by decide))) (run_call1 call134 rfl) ?_
 intro w7 hH8
 refine V (aV (U _) rfl) ?_
 refine RL.nil ?_
 refine CW.seq ?_
 refine CW.regionD (by kernel_rfl) hH8 ?_
 intro w9 hH10
 refine AT 0 rfl (hH10.sub sR) (fun w hS => run_ldRel underlying48 rfl rfl rfl (hS.blk (i := 1) rfl)) ?_
 refine AT 1 rfl (hH10.sub sR) (fun w hS => mV (U _) rfl) ?_
 refine AT 3 rfl (hH10.sub sR) (fun w hS => run_ldRel underlying48 rfl rfl rfl (hS.blk (i := 1) rfl)) ?_
 refine AT 4 rfl (hH10.sub sR) (fun w hS => mV (U _) rfl) ?_
 refine A1 2 ?_
 refine AO.callP rfl gnone rfl hH10 sR (c_relate_Up _ _  _ (hT.hp hH10)) (run_call2 call124 rfl rfl) ?_
 intro w11 hH12
 refine A1 5 ?_
 refine AO.callP rfl gnone rfl hH12 sR (c_relate_Down _ _  _) (run_call2 call135 rfl rfl) ?_
 intro w13 hH14
 refine AT 6 rfl (hH14.sub sR) (fun w hS => run_andU rfl rfl) ?_
 refine AT 7 rfl (hH14.sub sR) (fun w hS => aV (U _) rfl) ?_
 refine AD ?_
 refine CW.ret ?_
 refine outP1 Tryz.results139 (congrArg U ?_) hH14.below
 rfl

theorem c_relate_Order (r : Rl) (w : World) (hT : Tab w) : Calls Tryz.prog 116 #[.agg (relC r)] w (Pure (B (orderB r)) w) := by
 have hp := pts_bd r
 refine enter Tryz.func116 rfl Tryz.ntmps116 rfl ?_
 have hH := Hp.start w
 refine SR ?_
 refine RL.new rfl hH (f := fun b => (.pointer (some ⟨b, 0, none⟩))) (run_box (v := .agg _) rfl) ?_
 intro b3 w1 hH2
 refine V (aV (B false) rfl) ?_
 refine RL.nil ?_
 refine CW.seq ?_
 refine SR ?_
 refine V (run_ldRel underlying48 rfl rfl rfl (hH2.blk (i := 0) rfl)) ?_
 refine RL.callP rfl hH2 (c_relate_Closed _  _) (run_call1 call115 rfl) ?_
 intro w4 hH5
 refine V (run_notP rfl) ?_
 refine RL.nil ?_
 refine CW.condP rfl (fun h9 => ?_) (fun h9 => ?_)
 ·refine SR ?_
  refine V (aV (B false) rfl) ?_
  refine RL.nil ?_
  refine CW.ret ?_
  refine outP1 Tryz.results116 (congrArg B ?_) hH5.below
  exact (order_no0 ‹_›).symm
 ·refine CW.skip ?_
  refine CW.seq ?_
  refine SR ?_
  refine V (run_ldRel underlying48 rfl rfl rfl (hH5.blk (i := 0) rfl)) ?_
  refine RL.callP rfl hH5 (c_relate_points _  _) (run_call1 call128 rfl) ?_
  intro w10 hH11
  refine V (mV (I 0) rfl) ?_
  refine RL.nil ?_
  refine CW.block ?_
  have hc := Decidable.of_not_not ‹¬ ¬ (plainR r).eq (cloR r)›
  refine CW.loop (G := (Int)) (fun (k : Int) s' w' => (Fr [2, 3, 9, 10, 11, 12, 13, 14, 15, 16, 17, 18, 19] _ s') ∧ (Hp w w' _) ∧ (s' 9 = I k) ∧ (0 ≤ k) ∧ (k ≤ pts r) ∧ (∀ j : Int, 0 ≤ j → j < k → mutualR r j = ofl [j])) (fun (k : Int) => (pts r - k).toNat) (0) ⟨Fr.refl _ _, hH11, rfl, (by omega), (by omega), fun j a b => absurd b (by omega)⟩ ?_
  rintro k sg12 w12 ⟨fr12, hH12, e9_12, h0, hk, hf⟩
  have e1_12 : sg12 1 = Pn _ _ := (fr12 1 rfl).trans rfl
  have e8_12 : sg12 8 = I _ := (fr12 8 rfl).trans rfl
  refine SR ?_
  refine V (run_lss e9_12 e8_12) ?_
  refine RL.nil ?_
  refine CW.seq ?_
  refine CW.condP rfl (fun h14 => ?_) (fun h14 => ?_)
  ·refine CW.skip ?_
   refine CW.seq ?_
   refine CW.block ?_
   refine SR ?_
   refine V (run_move e9_12) ?_
   refine V (aV (I _) rfl) ?_
   refine RL.nil ?_
   refine SR ?_
   refine V (run_ldRel underlying48 rfl rfl e1_12 (hH12.blk (i := 0) rfl)) ?_
   refine V (mV (I _) rfl) ?_
   refine RL.callP rfl hH12 (c_relate_mutual _ _  _ (hT.hp hH12)) (run_call2 call139 rfl rfl) ?_
   intro w15 hH16
   refine V (mV (I _) rfl) ?_
   refine RL.new rfl hH16 (f := fun b => (.slice (some ⟨b, 0, none⟩) 1 1)) (run_mkL underlying82 rfl rfl (sz := 1) (vs := [I _]) rfl rfl (by decide) (by decide) rfl rfl) ?_
   intro b19 w17 hH18
   (try simp only [List.flatMap_cons, List.flatMap_nil, clI, clB, clS, clP, clL, clA, List.append_nil, List.cons_append, List.nil_append] at hH18)
   refine RL.callP rfl hH18 (c_mask_Of _ [k] _ (hH18.slBlk (i := 0) (n := 1) (sz := 1) rfl rfl (by decide))) (run_call1 call134 rfl) ?_
   intro w20 hH21
   refine V (run_neqU rfl rfl) ?_
   refine RL.nil ?_
   refine CW.condP rfl (fun h23 => ?_) (fun h23 => ?_)
   ·refine SR ?_
    refine V (aV (B false) rfl) ?_
    refine RL.nil ?_
    refine CW.ret ?_
    refine outP1 Tryz.results116 (congrArg B ?_) hH21.below
    exact (order_no hc ⟨h0, by omega⟩ ‹_›).symm
   ·refine CW.skip ?_
    refine CW.region ?_
    refine V (run_add e9_12 rfl (by omega)) ?_
    refine V (mV (I _) rfl) ?_
    refine RL.nil ?_
    refine ⟨k + 1, ?_, fr12.u4.u4.u4, (hH21.sub (sQ sR)), (congrArg I (by first | rfl | omega)), ?_, ?_, ?_⟩
    ·((try dsimp only); omega)
    ·omega
    ·omega
    ·exact fun j a b => if e : j = k then e ▸ Decidable.of_not_not ‹_› else hf j a (by omega)
  ·refine CW.exit (id := 0) rfl ?_
   refine SR ?_
   refine V (aV (B true) rfl) ?_
   refine RL.nil ?_
   refine CW.ret ?_
   refine outP1 Tryz.results116 (congrArg B ?_) hH12.below
   exact (order_yes hc fun j a b => hf j a (by omega)).symm

theorem c_clearanceref03_Order (r : Rl) (w : World) : Calls Tryz.prog 109 #[.agg (relC r)] w (Pure (B (orderB r)) w) := by
 have hp := pts_bd r
 refine enter Tryz.func109 rfl Tryz.ntmps109 rfl ?_
 have hH := Hp.start w
 refine SR ?_
 refine RL.new rfl hH (f := fun b => (.pointer (some ⟨b, 0, none⟩))) (run_box (v := .agg _) rfl) ?_
 intro b3 w1 hH2
 refine V (aV (B false) rfl) ?_
 refine RL.nil ?_
 refine CW.seq ?_
 refine SR ?_
 refine V (aV (I 0) rfl) ?_
 refine RL.nil ?_
 refine CW.block ?_
 refine CW.loop (G := (Int)) (fun (k : Int) s' w' => (Fr [2, 3, 4, 5, 6, 7, 8, 9, 10, 11, 12, 13, 14, 15, 16, 17, 18, 19, 20, 21, 22, 23, 24, 25] _ s') ∧ (Hp w w' _) ∧ (s' 3 = I k) ∧ (0 ≤ k) ∧ (k ≤ pts r) ∧ (∀ i j : Int, 0 ≤ j → j < i → i < k → (hasR r i j && hasR r j i) = false)) (fun (k : Int) => (pts r - k).toNat) (0) ⟨Fr.refl _ _, hH2, rfl, (by omega), (by omega), fun i j a b c => absurd c (by omega)⟩ ?_
 rintro k sg4 w4 ⟨fr4, hH4, e3_4, k0, k1, hf⟩
 have e1_4 : sg4 1 = Pn _ _ := (fr4 1 rfl).trans rfl
 refine CW.seq ?_
 refine SR ?_
 refine V (run_move e3_4) ?_
 refine V (run_ldRel underlying48 rfl rfl e1_4 (hH4.blk (i := 0) rfl)) ?_
 refine RL.callP rfl hH4 (c_clearanceref03_Points _  _) (run_call1 call73 rfl) ?_
 intro w5 hH6
 refine V (run_lss rfl rfl) ?_
 refine RL.nil ?_
 refine CW.condP rfl (fun h8 => ?_) (fun h8 => ?_)
 ·refine CW.skip ?_
  refine CW.seq ?_
  refine CW.block ?_
  refine SR ?_
  refine V (aV (I 0) rfl) ?_
  refine RL.nil ?_
  refine CW.block ?_
  refine CW.loop (G := (Int)) (fun (j : Int) s' w' => (Fr [2, 4, 11, 12, 13, 14, 15, 16, 17, 18, 19, 20, 21, 22, 23, 24, 25] _ s') ∧ (Hp w w' _) ∧ (s' 4 = I j) ∧ (0 ≤ j) ∧ (j ≤ k) ∧ (∀ x : Int, 0 ≤ x → x < j → (hasR r k x && hasR r x k) = false)) (fun (j : Int) => (k - j).toNat) (0) ⟨Fr.refl _ _, hH6, rfl, (by omega), (by omega), fun x a b => absurd b (by omega)⟩ ?_
  rintro j sg9 w9 ⟨fr9, hH9, e4_9, j0, j1, hg⟩
  have e1_9 := (fr9 1 rfl).trans e1_4
  have e3_9 := (fr9 3 rfl).trans e3_4
  have e5_9 : sg9 5 = I _ := (fr9 5 rfl).trans rfl
  have e6_9 : sg9 6 = .agg _ := (fr9 6 rfl).trans rfl
  have e7_9 : sg9 7 = I _ := (fr9 7 rfl).trans rfl
  have e8_9 : sg9 8 = B _ := (fr9 8 rfl).trans rfl
  refine CW.seq ?_
  refine SR ?_
  refine V (run_move e4_9) ?_
  refine V (run_move e3_9) ?_
  refine V (run_lss rfl rfl) ?_
  refine RL.nil ?_
  refine CW.condP rfl (fun h11 => ?_) (fun h11 => ?_)
  ·refine CW.skip ?_
   refine CW.seq ?_
   refine CW.block ?_
   refine SR ?_
   refine V (run_ldRel underlying48 rfl rfl e1_9 (hH9.blk (i := 0) rfl)) ?_
   refine V (run_move e3_9) ?_
   refine V (run_move e4_9) ?_
   refine RL.callP rfl hH9 (c_clearanceref03_Has _ _ _  _) (run_call3 call94 rfl rfl rfl) ?_
   intro w12 hH13
   refine V (mV (B _) rfl) ?_
   refine RL.split (dj := 20) rfl (fun h15 => ?_) (fun h15 => ?_)
   ·refine RL.gT rfl (bR (c := true) h15) ?_
    refine V (run_ldRel underlying48 rfl rfl e1_9 (hH13.blk (i := 0) rfl)) ?_
    refine RL.gT rfl (bR (c := true) h15) ?_
    refine V (run_move e4_9) ?_
    refine RL.gT rfl (bR (c := true) h15) ?_
    refine V (run_move e3_9) ?_
    refine RL.gT rfl (bR (c := true) h15) ?_
    refine RL.callP rfl hH13 (c_clearanceref03_Has _ _ _  _) (run_call3 call94 rfl rfl rfl) ?_
    intro w16 hH17
    refine V (run_pickT (bR (c := true) h15) (v := B _) rfl) ?_
    refine RL.nil ?_
    refine CW.cond rfl (fun h19 => ?_) (fun h19 => ?_)
    ·refine SR ?_
     refine V (aV (B false) rfl) ?_
     refine RL.nil ?_
     refine CW.ret ?_
     refine outP1 Tryz.results109 (congrArg B ?_) hH17.below
     first | exact (order_ref ‹_› hf).symm | exact (order_refno ‹hasR r k j = true› ‹hasR r j k = true› ‹_›).symm
    ·refine CW.skip ?_
     refine CW.region ?_
     refine V (run_move e4_9) ?_
     refine V (run_add rfl rfl (by omega)) ?_
     refine V (aV (I _) rfl) ?_
     refine RL.nil ?_
     refine ⟨j + 1, ?_, fr9.u4.u4.u4.u4, hH17, (congrArg I (by first | rfl | omega)), ?_, ?_, ?_⟩
     ·((try dsimp only); omega)
     ·omega
     ·omega
     ·exact fun x u v => if e : x = j then e ▸ (by first | (rw [‹hasR r k j = false›]; rfl) | (rw [‹hasR r j k = false›]; simp)) else hg x u (by omega)
   ·refine RL.gF rfl rfl (bR (c := false) h15) rfl ?_
    refine RL.gF rfl rfl (bR (c := false) h15) rfl ?_
    refine RL.gF rfl rfl (bR (c := false) h15) rfl ?_
    refine RL.gF rfl rfl (bR (c := false) h15) rfl ?_
    refine V (run_pickF (bR (c := false) h15) (v := B false) rfl) ?_
    refine RL.nil ?_
    refine CW.condF rfl ?_
    refine CW.skip ?_
    refine CW.region ?_
    refine V (run_move e4_9) ?_
    refine V (run_add rfl rfl (by omega)) ?_
    refine V (aV (I _) rfl) ?_
    refine RL.nil ?_
    refine ⟨j + 1, ?_, fr9.u4.u4.u4.u4, hH13, (congrArg I (by first | rfl | omega)), ?_, ?_, ?_⟩
    ·((try dsimp only); omega)
    ·omega
    ·omega
    ·exact fun x u v => if e : x = j then e ▸ (by first | (rw [‹hasR r k j = false›]; rfl) | (rw [‹hasR r j k = false›]; simp)) else hg x u (by omega)
  ·refine CW.exit (id := 2) rfl ?_
   refine CW.region ?_
   refine V (run_move e3_9) ?_
   refine V (run_add rfl rfl (by omega)) ?_
   refine V (aV (I _) rfl) ?_
   refine RL.nil ?_
   refine ⟨k + 1, ?_, (((fr4.u4.u1).t fr9 rfl)).u4.u1.u1, hH9, (congrArg I (by first | rfl | omega)), ?_, ?_, ?_⟩
   ·((try dsimp only); omega)
   ·omega
   ·omega
   ·exact fun i x u v y => if e : i = k then e ▸ hg x u (by omega) else hf i x u v (by omega)
 ·refine CW.exit (id := 0) rfl ?_
  refine SR ?_
  refine V (run_ldRel underlying48 rfl rfl e1_4 (hH6.blk (i := 0) rfl)) ?_
  refine RL.callP rfl hH6 (c_clearanceref03_Closed _  _) (run_call1 call108 rfl) ?_
  intro w20 hH21
  refine V (aV (B _) rfl) ?_
  refine RL.nil ?_
  refine CW.ret ?_
  refine outP1 Tryz.results109 (congrArg B ?_) hH21.below
  first | exact (order_ref ‹_› hf).symm | exact (order_refno ‹hasR r k j = true› ‹hasR r j k = true› ‹_›).symm

theorem c_hasse_in (r : Rl) (i : Int) (w : World) : Calls Tryz.prog 142 #[.agg (relC r), I i] w (Pure (B (isP r i)) w) := by
 have hp := pts_bd r
 have hnn : (newR r.n).n = pts r := rfl
 refine enter Tryz.func142 rfl Tryz.ntmps142 rfl ?_
 have hH := Hp.start w
 refine SR ?_
 refine RL.new rfl hH (f := fun b => (.pointer (some ⟨b, 0, none⟩))) (run_box (v := .agg _) rfl) ?_
 intro b3 w1 hH2
 refine V (aV (B false) rfl) ?_
 refine RL.nil ?_
 refine SR ?_
 refine V (mV (I _) rfl) ?_
 refine V (run_geq rfl rfl) ?_
 refine V (mV (B _) rfl) ?_
 refine RL.splitP (dj := 7) rfl (fun h5 => ?_) (fun h5 => ?_)
 ·refine RL.gT rfl (bT h5) ?_
  refine V (mV (I _) rfl) ?_
  refine RL.gT rfl (bT h5) ?_
  refine V (fA underlying48 0 rfl sizeOf3 rfl) ?_
  refine RL.gT rfl (bT h5) ?_
  refine V (run_ld underlying3 rfl rfl (hH2.cell (i := 0) rfl (relC_N _))) ?_
  refine RL.gT rfl (bT h5) ?_
  refine RL.callP rfl hH2 (c_relate_New _  _) (run_call1 call100 rfl) ?_
  intro w6 hH7
  refine RL.gT rfl (bT h5) ?_
  refine V (run_field underlying48 rfl isAgg3 rfl (relC_N _)) ?_
  refine RL.gT rfl (bT h5) ?_
  refine V (run_lss rfl rfl) ?_
  refine V (run_pickT (bT h5) (v := B _) rfl) ?_
  refine V (aV (B _) rfl) ?_
  refine RL.nil ?_
  refine CW.ret ?_
  refine outP1 Tryz.results142 (congrArg B ?_) hH7.below
  (rw [isP, Bool.eq_iff_iff]; simp only [decide_eq_true_eq, Bool.false_eq_true, false_iff]; omega)
 ·refine RL.gF rfl rfl (bF h5) rfl ?_
  refine RL.gF rfl rfl (bF h5) rfl ?_
  refine RL.gF rfl rfl (bF h5) rfl ?_
  refine RL.gF rfl rfl (bF h5) rfl ?_
  refine RL.gF rfl rfl (bF h5) rfl ?_
  refine RL.gF rfl rfl (bF h5) rfl ?_
  refine V (run_pickF (bF h5) (v := B false) rfl) ?_
  refine V (aV (B _) rfl) ?_
  refine RL.nil ?_
  refine CW.ret ?_
  refine outP1 Tryz.results142 (congrArg B ?_) hH2.below
  (rw [isP, Bool.eq_iff_iff]; simp only [decide_eq_true_eq, Bool.false_eq_true, false_iff]; omega)

theorem c_hasse_above (r : Rl) (i : Int) (w : World) (hT : Tab w) : Calls Tryz.prog 141 #[.agg (relC r), I i] w (Pure (U (aboveR r i)) w) := by
 refine enter Tryz.func141 rfl Tryz.ntmps141 rfl ?_
 have hH := Hp.start w
 refine SR ?_
 refine RL.new rfl hH (f := fun b => (.pointer (some ⟨b, 0, none⟩))) (run_box (v := .agg _) rfl) ?_
 intro b3 w1 hH2
 refine V (aV (U 0#64) rfl) ?_
 refine RL.nil ?_
 refine CW.seq ?_
 refine CW.regionD (by kernel_rfl) hH2 ?_
 intro w4 hH5
 refine AT 0 rfl (hH5.sub sR) (fun w hS => run_ldRel underlying48 rfl rfl rfl (hS.blk (i := 0) rfl)) ?_
 refine AT 1 rfl (hH5.sub sR) (fun w hS => mV (I _) rfl) ?_
 refine A1 2 ?_
 refine AO.new rfl gnone rfl hH5 sR (f := fun b => .slice (some ⟨b, 0, none⟩) 1 1) (run_mkL underlying82 rfl rfl (sz := 1) (vs := [I _]) rfl rfl (by decide) (by decide) rfl rfl) ?_
 intro b8 w6 hH7
 (try simp only [List.flatMap_cons, List.flatMap_nil, clI, clB, clS, clP, clL, clA, List.append_nil, List.cons_append, List.nil_append] at hH7)
 refine A1 3 ?_
 refine AO.callP rfl gnone rfl hH7 (sQ sR) (c_mask_Of _ [i] _ (hH7.slBlk (i := 0) (n := 1) (sz := 1) rfl rfl (by decide))) (run_call1 call134 rfl) ?_
 intro w9 hH10
 refine A1 4 ?_
 refine AO.callP rfl gnone rfl hH10 (sQ sR) (c_relate_Up _ _  _ (hT.hp hH10)) (run_call2 call124 rfl rfl) ?_
 intro w11 hH12
 refine AT 5 rfl (hH12.sub (sQ sR)) (fun w hS => aV (U _) rfl) ?_
 refine AD ?_
 refine CW.ret ?_
 refine outP1 Tryz.results141 (congrArg U ?_) hH12.below
 rfl

theorem c_hasse_below (r : Rl) (i : Int) (w : World) (hT : Tab w) : Calls Tryz.prog 127 #[.agg (relC r), I i] w (Pure (U (belowR r i)) w) := by
 refine enter Tryz.func127 rfl Tryz.ntmps127 rfl ?_
 have hH := Hp.start w
 refine SR ?_
 refine RL.new rfl hH (f := fun b => (.pointer (some ⟨b, 0, none⟩))) (run_box (v := .agg _) rfl) ?_
 intro b3 w1 hH2
 refine V (aV (U 0#64) rfl) ?_
 refine RL.nil ?_
 refine CW.seq ?_
 refine SR ?_
 refine V (run_ldRel underlying48 rfl rfl rfl (hH2.blk (i := 0) rfl)) ?_
 refine V (mV (I _) rfl) ?_
 refine RL.callP rfl hH2 (c_hasse_in _ _  _) (run_call2 call142 rfl rfl) ?_
 intro w4 hH5
 refine V (run_not rfl) ?_
 refine RL.nil ?_
 refine CW.cond rfl (fun h8 => ?_) (fun h8 => ?_)
 ·refine SR ?_
  refine V (aV (U 0#64) rfl) ?_
  refine RL.nil ?_
  refine CW.ret ?_
  refine outP1 Tryz.results127 (congrArg U ?_) hH5.below
  first | rw [belowR, if_neg (by simpa using ‹(!isP r i) = true›)] | rw [belowR, if_pos (by simpa using ‹(!isP r i) = false›)]
 ·refine CW.skip ?_
  refine CW.seq ?_
  refine CW.regionD (by kernel_rfl) hH5 ?_
  intro w9 hH10
  refine AT 0 rfl (hH10.sub sR) (fun w hS => run_ldRel underlying48 rfl rfl rfl (hS.blk (i := 0) rfl)) ?_
  refine AT 1 rfl (hH10.sub sR) (fun w hS => mV (I _) rfl) ?_
  refine A1 2 ?_
  refine AO.new rfl gnone rfl hH10 sR (f := fun b => .slice (some ⟨b, 0, none⟩) 1 1) (run_mkL underlying82 rfl rfl (sz := 1) (vs := [I _]) rfl rfl (by decide) (by decide) rfl rfl) ?_
  intro b13 w11 hH12
  (try simp only [List.flatMap_cons, List.flatMap_nil, clI, clB, clS, clP, clL, clA, List.append_nil, List.cons_append, List.nil_append] at hH12)
  refine A1 3 ?_
  refine AO.callP rfl gnone rfl hH12 (sQ sR) (c_mask_Of _ [i] _ (hH12.slBlk (i := 0) (n := 1) (sz := 1) rfl rfl (by decide))) (run_call1 call134 rfl) ?_
  intro w14 hH15
  refine A1 4 ?_
  refine AO.callP rfl gnone rfl hH15 (sQ sR) (c_relate_Down _ _  _) (run_call2 call135 rfl rfl) ?_
  intro w16 hH17
  refine AT 5 rfl (hH17.sub (sQ sR)) (fun w hS => aV (U _) rfl) ?_
  refine AD ?_
  refine CW.ret ?_
  refine outP1 Tryz.results127 (congrArg U ?_) hH17.below
  first | rw [belowR, if_neg (by simpa using ‹(!isP r i) = true›)] | rw [belowR, if_pos (by simpa using ‹(!isP r i) = false›)]

theorem c_hasse_nearest (r : Rl) (i j : Int) (f : FuncId) (gg : Int → BitVec 64) (w : World) (hf : ∀ args w, (callFunc f args).run Tryz.prog w = .ok (.enter f args) w) (go : ∀ i w, Tab w → Calls Tryz.prog f #[.agg (relC r), I i] w (Pure (U (gg i)) w)) (hn : ∀ u, hasB (gg i &&& gg j) u = true → u < pts r) (hT : Tab w) : Calls Tryz.prog 140 #[.agg (relC r), I i, I j, .func (.func f) #[] #[]] w (Pure (.tuple #[I (nearV gg (pts r) i j).1, B (nearV gg (pts r) i j).2]) w) := by
 have hl := lst_len (gg i &&& gg j)
 refine enter Tryz.func140 rfl Tryz.ntmps140 rfl ?_
 have hH := Hp.start w
 refine SR ?_
 refine RL.new rfl hH (f := fun b => (.pointer (some ⟨b, 0, none⟩))) (run_box (v := .agg _) rfl) ?_
 intro b3 w1 hH2
 refine V (aV (I 0) rfl) ?_
 refine V (aV (B false) rfl) ?_
 refine RL.nil ?_
 refine CW.seq ?_
 refine CW.regionD (by kernel_rfl) hH2 ?_
 intro w4 hH5
 refine AT 0 rfl (hH5.sub sR) (fun w hS => mV (.func _ _ _) rfl) ?_
 refine AT 1 rfl (hH5.sub sR) (fun w hS => run_ldRel underlying48 rfl rfl rfl (hS.blk (i := 0) rfl)) ?_
 refine AT 2 rfl (hH5.sub sR) (fun w hS => mV (I _) rfl) ?_
 refine AT 4 rfl (hH5.sub sR) (fun w hS => mV (.func _ _ _) rfl) ?_
 refine AT 5 rfl (hH5.sub sR) (fun w hS => run_ldRel underlying48 rfl rfl rfl (hS.blk (i := 0) rfl)) ?_
 refine AT 6 rfl (hH5.sub sR) (fun w hS => mV (I _) rfl) ?_
 refine A1 3 ?_
 refine AO.callP rfl gnone rfl hH5 sR (go _ _ (hT.hp hH5)) (run_callC2 hf (cs := []) rfl rfl rfl) ?_
 intro w6 hH7
 refine A1 7 ?_
 refine AO.callP rfl gnone rfl hH7 sR (go _ _ (hT.hp hH7)) (run_callC2 hf (cs := []) rfl rfl rfl) ?_
 intro w8 hH9
 refine AT 8 rfl (hH9.sub sR) (fun w hS => run_andU rfl rfl) ?_
 refine AT 9 rfl (hH9.sub sR) (fun w hS => aV (U _) rfl) ?_
 refine AD ?_
 refine CW.seq ?_
 refine SR ?_
 refine V (mV (U _) rfl) ?_
 refine RL.callR rfl hH9 (c_mask_List _  _ (hT.hp hH9)) (run_call1 call55 rfl) ?_
 intro v12 w10 hH11
 refine V (run_lenSl (hH11.sl (i := 0) rfl) rfl underlying82 rfl) ?_
 refine V (mV (I 0) rfl) ?_
 refine RL.nil ?_
 refine CW.block ?_
 refine CW.loop (G := (Int)) (fun (a : Int) s' w' => (Fr [8, 9, 12, 25, 26, 27, 28, 29, 30, 31, 32, 33, 34, 35, 36] _ s') ∧ (Hp w w' _) ∧ (s' 25 = I a) ∧ (0 ≤ a) ∧ (a ≤ (lst (gg i &&& gg j)).length) ∧ (∀ b : Int, 0 ≤ b → b < a → subB (gg i &&& gg j) (gg ((lst (gg i &&& gg j)).getD b.toNat 0)) = false)) (fun (a : Int) => ((lst (gg i &&& gg j)).length - a).toNat) (0) ⟨Fr.refl _ _, hH11, rfl, (by omega), (by omega), fun b x y => absurd y (by omega)⟩ ?_
 rintro a sg13 w13 ⟨fr13, hH13, e25_13, a0, a1, hg⟩
 have e3_13 : sg13 3 = .func _ _ _ := (fr13 3 rfl).trans rfl
 have e4_13 : sg13 4 = Pn _ _ := (fr13 4 rfl).trans rfl
 have e10_13 : sg13 10 = U _ := (fr13 10 rfl).trans rfl
 have e23_13 := (fr13 23 rfl).trans (by conv => lhs; whnf)
 have e24_13 : sg13 24 = I _ := (fr13 24 rfl).trans rfl
 refine SR ?_
 refine V (run_lss e25_13 e24_13) ?_
 refine RL.nil ?_
 refine CW.seq ?_
 refine CW.condP rfl (fun h15 => ?_) (fun h15 => ?_)
 ·refine CW.skip ?_
  refine CW.seq ?_
  refine CW.block ?_
  refine SR ?_
  refine V (run_indexAddrS (hH13.sl (i := 0) rfl) underlying82 sizeOf3 e23_13 e25_13 (by omega)) ?_
  refine V (run_ld underlying3 rfl rfl ((hH13.sl (i := 0) rfl).cell _ _ (map_at (by omega)))) ?_
  refine V (aV (I _) rfl) ?_
  refine RL.nil ?_
  refine SR ?_
  refine V (run_move e10_13) ?_
  refine V (run_move e3_13) ?_
  refine V (run_ldRel underlying48 rfl rfl e4_13 (hH13.blk (i := 1) rfl)) ?_
  refine V (mV (I _) rfl) ?_
  refine RL.callP rfl hH13 (go _ _ (hT.hp hH13)) (run_callC2 hf (cs := []) rfl rfl rfl) ?_
  intro w16 hH17
  refine RL.callP rfl hH17 (c_mask_Sub _ _  _) (run_call2 call79 rfl rfl) ?_
  intro w18 hH19
  refine RL.nil ?_
  refine CW.cond rfl (fun h21 => ?_) (fun h21 => ?_)
  ·refine SR ?_
   refine V (mV (I _) rfl) ?_
   refine V (aV (I _) rfl) ?_
   refine V (aV (B true) rfl) ?_
   refine RL.nil ?_
   refine CW.ret ?_
   refine outP2 Tryz.results140 (congrArg I ?_) (congrArg B ?_) hH19.below <;> rw [near_yes hn a0 ‹_› ‹_› hg]
  ·refine CW.skip ?_
   refine CW.region ?_
   refine V (run_add e25_13 rfl (by omega)) ?_
   refine V (mV (I _) rfl) ?_
   refine RL.nil ?_
   refine ⟨a + 1, ?_, fr13.u4.u4.u4, hH19, (congrArg I (by first | rfl | omega)), ?_, ?_, ?_⟩
   ·((try dsimp only); omega)
   ·omega
   ·omega
   ·exact fun b x y => if e : b = a then e ▸ ‹_› else hg b x (by omega)
 ·refine CW.exit (id := 0) rfl ?_
  refine SR ?_
  refine V (aV (I 0) rfl) ?_
  refine V (aV (B false) rfl) ?_
  refine RL.nil ?_
  refine CW.ret ?_
  refine outP2 Tryz.results140 (congrArg I ?_) (congrArg B ?_) hH13.below <;> rw [near_no ‹_› hg]

theorem c_hasse_Join (r : Rl) (i j : Int) (w : World) (hT : Tab w) : Calls Tryz.prog 117 #[.agg (relC r), I i, I j] w (Pure (.tuple #[I (joinV r i j).1, B (joinV r i j).2]) w) := by
 refine enter Tryz.func117 rfl Tryz.ntmps117 rfl ?_
 have hH := Hp.start w
 refine SR ?_
 refine RL.new rfl hH (f := fun b => (.pointer (some ⟨b, 0, none⟩))) (run_box (v := .agg _) rfl) ?_
 intro b3 w1 hH2
 refine V (aV (I 0) rfl) ?_
 refine V (aV (B false) rfl) ?_
 refine RL.nil ?_
 refine SR ?_
 refine V (run_ldRel underlying48 rfl rfl rfl (hH2.blk (i := 0) rfl)) ?_
 refine V (mV (I _) rfl) ?_
 refine V (mV (I _) rfl) ?_
 refine RL.callP rfl hH2 (c_hasse_nearest r i j 141 (aboveR r) _ call141 (fun i w h => c_hasse_above r i w h) (fun u h => above_in h) (hT.hp hH2)) (run_call4 call140 rfl rfl rfl rfl) ?_
 intro w4 hH5
 refine V (run_extract rfl (v := I _) rfl) ?_
 refine V (run_extract rfl (v := B _) rfl) ?_
 refine V (aV (I _) rfl) ?_
 refine V (aV (B _) rfl) ?_
 refine RL.nil ?_
 refine CW.ret ?_
 refine outP2 Tryz.results117 (congrArg I ?_) (congrArg B ?_) hH5.below
 all_goals rfl

theorem c_hasse_Meet (r : Rl) (i j : Int) (w : World) (hT : Tab w) : Calls Tryz.prog 118 #[.agg (relC r), I i, I j] w (Pure (.tuple #[I (meetV r i j).1, B (meetV r i j).2]) w) := by
 refine enter Tryz.func118 rfl Tryz.ntmps118 rfl ?_
 have hH := Hp.start w
 refine SR ?_
 refine RL.new rfl hH (f := fun b => (.pointer (some ⟨b, 0, none⟩))) (run_box (v := .agg _) rfl) ?_
 intro b3 w1 hH2
 refine V (aV (I 0) rfl) ?_
 refine V (aV (B false) rfl) ?_
 refine RL.nil ?_
 refine SR ?_
 refine V (run_ldRel underlying48 rfl rfl rfl (hH2.blk (i := 0) rfl)) ?_
 refine V (mV (I _) rfl) ?_
 refine V (mV (I _) rfl) ?_
 refine RL.callP rfl hH2 (c_hasse_nearest r i j 127 (belowR r) _ call127 (fun i w h => c_hasse_below r i w h) (fun u h => below_inR h) (hT.hp hH2)) (run_call4 call140 rfl rfl rfl rfl) ?_
 intro w4 hH5
 refine V (run_extract rfl (v := I _) rfl) ?_
 refine V (run_extract rfl (v := B _) rfl) ?_
 refine V (aV (I _) rfl) ?_
 refine V (aV (B _) rfl) ?_
 refine RL.nil ?_
 refine CW.ret ?_
 refine outP2 Tryz.results118 (congrArg I ?_) (congrArg B ?_) hH5.below
 all_goals rfl

theorem c_hasse_Word (r : Rl) (i : Int) (w : World) (hT : Tab w) : Calls Tryz.prog 90 #[.agg (relC r), I i] w (Pure (U (belowR r i)) w) := by
 refine enter Tryz.func90 rfl Tryz.ntmps90 rfl ?_
 have hH := Hp.start w
 refine SR ?_
 refine RL.new rfl hH (f := fun b => (.pointer (some ⟨b, 0, none⟩))) (run_box (v := .agg _) rfl) ?_
 intro b3 w1 hH2
 refine V (aV (U 0#64) rfl) ?_
 refine RL.nil ?_
 refine SR ?_
 refine V (run_ldRel underlying48 rfl rfl rfl (hH2.blk (i := 0) rfl)) ?_
 refine V (mV (I _) rfl) ?_
 refine RL.callP rfl hH2 (c_hasse_below _ _  _ (hT.hp hH2)) (run_call2 call127 rfl rfl) ?_
 intro w4 hH5
 refine V (aV (U _) rfl) ?_
 refine RL.nil ?_
 refine CW.ret ?_
 refine outP1 Tryz.results90 (congrArg U ?_) hH5.below
 rfl

theorem c_hasse_Point (r : Rl) (s : BitVec 64) (w : World) (hT : Tab w) : Calls Tryz.prog 58 #[.agg (relC r), U s] w (Pure (.tuple #[I (pointV r s).1, B (pointV r s).2]) w) := by
 have hp := pts_bd r
 have hnn : (newR r.n).n = pts r := rfl
 refine enter Tryz.func58 rfl Tryz.ntmps58 rfl ?_
 have hH := Hp.start w
 refine SR ?_
 refine RL.new rfl hH (f := fun b => (.pointer (some ⟨b, 0, none⟩))) (run_box (v := .agg _) rfl) ?_
 intro b3 w1 hH2
 refine V (aV (I 0) rfl) ?_
 refine V (aV (B false) rfl) ?_
 refine RL.nil ?_
 refine CW.seq ?_
 refine SR ?_
 refine V (fA underlying48 0 rfl sizeOf3 rfl) ?_
 refine V (run_ld underlying3 rfl rfl (hH2.cell (i := 0) rfl (relC_N _))) ?_
 refine RL.callP rfl hH2 (c_relate_New _  _) (run_call1 call100 rfl) ?_
 intro w4 hH5
 refine V (run_field underlying48 rfl isAgg3 rfl (relC_N _)) ?_
 refine V (mV (I 0) rfl) ?_
 refine RL.nil ?_
 refine CW.block ?_
 refine CW.loop (G := (Int)) (fun (k : Int) s' w' => (Fr [4, 5, 6, 11, 12, 13, 14, 15, 16, 17, 18, 19, 20] _ s') ∧ (Hp w w' _) ∧ (s' 11 = I k) ∧ (0 ≤ k) ∧ (k ≤ pts r) ∧ (∀ j : Int, 0 ≤ j → j < k → belowR r j ≠ s)) (fun (k : Int) => (pts r - k).toNat) (0) ⟨Fr.refl _ _, hH5, rfl, (by omega), (by omega), fun j x y => absurd y (by omega)⟩ ?_
 rintro k sg6 w6 ⟨fr6, hH6, e11_6, h0, hk, hg⟩
 have e1_6 : sg6 1 = U _ := (fr6 1 rfl).trans rfl
 have e2_6 : sg6 2 = Pn _ _ := (fr6 2 rfl).trans rfl
 have e10_6 : sg6 10 = I _ := (fr6 10 rfl).trans rfl
 refine SR ?_
 refine V (run_lss e11_6 e10_6) ?_
 refine RL.nil ?_
 refine CW.seq ?_
 refine CW.condP rfl (fun h8 => ?_) (fun h8 => ?_)
 ·refine CW.skip ?_
  refine CW.seq ?_
  refine CW.block ?_
  refine SR ?_
  refine V (run_move e11_6) ?_
  refine V (aV (I _) rfl) ?_
  refine RL.nil ?_
  refine SR ?_
  refine V (run_ldRel underlying48 rfl rfl e2_6 (hH6.blk (i := 0) rfl)) ?_
  refine V (mV (I _) rfl) ?_
  refine RL.callP rfl hH6 (c_hasse_Word _ _  _ (hT.hp hH6)) (run_call2 call90 rfl rfl) ?_
  intro w9 hH10
  refine V (run_move e1_6) ?_
  refine V (run_eqlU rfl rfl) ?_
  refine RL.nil ?_
  refine CW.condP rfl (fun h12 => ?_) (fun h12 => ?_)
  ·refine SR ?_
   refine V (mV (I _) rfl) ?_
   refine V (aV (I _) rfl) ?_
   refine V (aV (B true) rfl) ?_
   refine RL.nil ?_
   refine CW.ret ?_
   refine outP2 Tryz.results58 (congrArg I ?_) (congrArg B ?_) hH10.below <;> rw [point_yes h0 (by omega) ‹_› hg]
  ·refine CW.skip ?_
   refine CW.region ?_
   refine V (run_add e11_6 rfl (by omega)) ?_
   refine V (mV (I _) rfl) ?_
   refine RL.nil ?_
   refine ⟨k + 1, ?_, fr6.u4.u4.u1.u1, hH10, (congrArg I (by first | rfl | omega)), ?_, ?_, ?_⟩
   ·((try dsimp only); omega)
   ·omega
   ·omega
   ·exact fun j x y => if e : j = k then e ▸ ‹¬ belowR r k = s› else hg j x (by omega)
 ·refine CW.exit (id := 0) rfl ?_
  refine SR ?_
  refine V (aV (I 0) rfl) ?_
  refine V (aV (B false) rfl) ?_
  refine RL.nil ?_
  refine CW.ret ?_
  refine outP2 Tryz.results58 (congrArg I ?_) (congrArg B ?_) hH6.below <;> rw [point_no (by omega) hg]

theorem c_hasse_Lattice (r : Rl) (w : World) (hT : Tab w) : Calls Tryz.prog 85 #[.agg (relC r)] w (Pure (B (latB r)) w) := by
 have hp := pts_bd r
 refine enter Tryz.func85 rfl Tryz.ntmps85 rfl ?_
 have hH := Hp.start w
 refine SR ?_
 refine RL.new rfl hH (f := fun b => (.pointer (some ⟨b, 0, none⟩))) (run_box (v := .agg _) rfl) ?_
 intro b3 w1 hH2
 refine V (aV (B false) rfl) ?_
 refine RL.nil ?_
 refine CW.seq ?_
 refine SR ?_
 refine V (fA underlying48 0 rfl sizeOf3 rfl) ?_
 refine V (run_ld underlying3 rfl rfl (hH2.cell (i := 0) rfl (relC_N _))) ?_
 refine V (run_lss rfl rfl) ?_
 refine V (mV (B _) rfl) ?_
 refine RL.splitP (dj := 12) rfl (fun h5 => ?_) (fun h5 => ?_)
 ·refine RL.gF rfl rfl (bT h5) rfl ?_
  refine RL.gF rfl rfl (bT h5) rfl ?_
  refine RL.gF rfl rfl (bT h5) rfl ?_
  refine V (run_pickT (bT h5) (v := B true) rfl) ?_
  refine V (mV (B _) rfl) ?_
  refine RL.gF rfl rfl rfl rfl ?_
  refine RL.gF rfl rfl rfl rfl ?_
  refine RL.gF rfl rfl rfl rfl ?_
  refine V (run_pickT rfl (v := B true) rfl) ?_
  refine RL.nil ?_
  refine CW.condT rfl ?_
  refine SR ?_
  refine V (aV (B false) rfl) ?_
  refine RL.nil ?_
  refine CW.ret ?_
  refine outP1 Tryz.results85 (congrArg B ?_) hH2.below
  first | exact (lat_no1 (by omega)).symm | exact (lat_no2 (nt ‹_›)).symm | exact (lat_no3 ‹i < r.n› j0 ‹j < i› (by rw [bothB, nt ‹(!(joinV r i j).2) = true›]; rfl)).symm | exact (lat_no3 ‹i < r.n› j0 ‹j < i› (by rw [bothB, nt ‹(!(meetV r i j).2) = true›]; simp)).symm | exact (lat_yes hn ho ‹_› hg).symm
 ·refine RL.gT rfl (bF h5) ?_
  refine V (fA underlying48 0 rfl sizeOf3 rfl) ?_
  refine RL.gT rfl (bF h5) ?_
  refine V (run_ld underlying3 rfl rfl (hH2.cell (i := 0) rfl (relC_N _))) ?_
  refine RL.gT rfl (bF h5) ?_
  refine V (run_gtr rfl rfl) ?_
  refine V (run_pickF (bF h5) (v := B _) rfl) ?_
  refine V (mV (B _) rfl) ?_
  refine RL.splitP (dj := 17) rfl (fun h7 => ?_) (fun h7 => ?_)
  ·refine RL.gF rfl rfl (bT h7) rfl ?_
   refine RL.gF rfl rfl (bT h7) rfl ?_
   refine RL.gF rfl rfl (bT h7) rfl ?_
   refine V (run_pickT (bT h7) (v := B true) rfl) ?_
   refine RL.nil ?_
   refine CW.condT rfl ?_
   refine SR ?_
   refine V (aV (B false) rfl) ?_
   refine RL.nil ?_
   refine CW.ret ?_
   refine outP1 Tryz.results85 (congrArg B ?_) hH2.below
   first | exact (lat_no1 (by omega)).symm | exact (lat_no2 (nt ‹_›)).symm | exact (lat_no3 ‹i < r.n› j0 ‹j < i› (by rw [bothB, nt ‹(!(joinV r i j).2) = true›]; rfl)).symm | exact (lat_no3 ‹i < r.n› j0 ‹j < i› (by rw [bothB, nt ‹(!(meetV r i j).2) = true›]; simp)).symm | exact (lat_yes hn ho ‹_› hg).symm
  ·refine RL.gT rfl (bF h7) ?_
   refine V (run_ldRel underlying48 rfl rfl rfl (hH2.blk (i := 0) rfl)) ?_
   refine RL.gT rfl (bF h7) ?_
   refine RL.callP rfl hH2 (c_relate_Order _  _ (hT.hp hH2)) (run_call1 call116 rfl) ?_
   intro w8 hH9
   refine RL.gT rfl (bF h7) ?_
   refine V (run_not rfl) ?_
   refine V (run_pickF (bF h7) (v := B _) rfl) ?_
   refine RL.nil ?_
   refine CW.cond rfl (fun h12 => ?_) (fun h12 => ?_)
   ·refine SR ?_
    refine V (aV (B false) rfl) ?_
    refine RL.nil ?_
    refine CW.ret ?_
    refine outP1 Tryz.results85 (congrArg B ?_) hH9.below
    first | exact (lat_no1 (by omega)).symm | exact (lat_no2 (nt ‹_›)).symm | exact (lat_no3 ‹i < r.n› j0 ‹j < i› (by rw [bothB, nt ‹(!(joinV r i j).2) = true›]; rfl)).symm | exact (lat_no3 ‹i < r.n› j0 ‹j < i› (by rw [bothB, nt ‹(!(meetV r i j).2) = true›]; simp)).symm | exact (lat_yes hn ho ‹_› hg).symm
   ·refine CW.skip ?_
    refine CW.seq ?_
    refine SR ?_
    refine V (fA underlying48 0 rfl sizeOf3 rfl) ?_
    refine V (run_ld underlying3 rfl rfl (hH9.cell (i := 0) rfl (relC_N _))) ?_
    refine V (mV (I 0) rfl) ?_
    refine RL.nil ?_
    refine CW.block ?_
    have hn : 1 ≤ r.n ∧ r.n ≤ 64 := by omega
    have ho : orderB r = true := nf ‹_›
    refine CW.loop (G := (Int)) (fun (i : Int) s' w' => (Fr [2, 3, 4, 5, 6, 7, 8, 24, 25, 26, 27, 28, 29, 30, 31, 32, 33, 34, 35, 36, 37, 38, 39, 40, 41, 42, 43, 44, 45, 46, 47, 48, 49, 50, 51, 52] _ s') ∧ (Hp w w' _) ∧ (s' 24 = I i) ∧ (0 ≤ i) ∧ (i ≤ r.n) ∧ (∀ a b : Int, 0 ≤ b → b < a → a < i → bothB r a b = true)) (fun (i : Int) => (r.n - i).toNat) (0) ⟨Fr.refl _ _, hH9, rfl, (by omega), (by omega), fun a b x y z => absurd z (by omega)⟩ ?_
    rintro i sg13 w13 ⟨fr13, hH13, e24_13, i0, i1, hg⟩
    have e1_13 : sg13 1 = Pn _ _ := (fr13 1 rfl).trans rfl
    have e23_13 : sg13 23 = I _ := (fr13 23 rfl).trans rfl
    refine SR ?_
    refine V (run_lss e24_13 e23_13) ?_
    refine RL.nil ?_
    refine CW.seq ?_
    refine CW.condP rfl (fun h15 => ?_) (fun h15 => ?_)
    ·refine CW.skip ?_
     refine CW.seq ?_
     refine CW.block ?_
     refine SR ?_
     refine V (run_move e24_13) ?_
     refine V (aV (I _) rfl) ?_
     refine RL.nil ?_
     refine SR ?_
     refine V (mV (I _) rfl) ?_
     refine V (mV (I 0) rfl) ?_
     refine RL.nil ?_
     refine CW.block ?_
     refine CW.loop (G := (Int)) (fun (j : Int) s' w' => (Fr [2, 4, 5, 6, 7, 8, 28, 29, 30, 31, 32, 33, 34, 35, 36, 37, 38, 39, 40, 41, 42, 43, 44, 45, 46, 47, 48, 49, 50, 51] _ s') ∧ (Hp w w' _) ∧ (s' 28 = I j) ∧ (0 ≤ j) ∧ (j ≤ i) ∧ (∀ b : Int, 0 ≤ b → b < j → bothB r i b = true)) (fun (j : Int) => (i - j).toNat) (0) ⟨Fr.refl _ _, hH13, rfl, (by omega), (by omega), fun b x y => absurd y (by omega)⟩ ?_
     rintro j sg16 w16 ⟨fr16, hH16, e28_16, j0, j1, hh⟩
     have e1_16 := (fr16 1 rfl).trans e1_13
     have e3_16 : sg16 3 = I _ := (fr16 3 rfl).trans rfl
     have e23_16 := (fr16 23 rfl).trans e23_13
     have e24_16 := (fr16 24 rfl).trans e24_13
     have e25_16 : sg16 25 = B _ := (fr16 25 rfl).trans rfl
     have e26_16 : sg16 26 = I _ := (fr16 26 rfl).trans rfl
     have e27_16 : sg16 27 = I _ := (fr16 27 rfl).trans rfl
     refine SR ?_
     refine V (run_lss e28_16 e27_16) ?_
     refine RL.nil ?_
     refine CW.seq ?_
     refine CW.condP rfl (fun h18 => ?_) (fun h18 => ?_)
     ·refine CW.skip ?_
      refine CW.seq ?_
      refine CW.block ?_
      refine SR ?_
      refine V (run_move e28_16) ?_
      refine V (aV (I _) rfl) ?_
      refine RL.nil ?_
      refine SR ?_
      refine V (run_ldRel underlying48 rfl rfl e1_16 (hH16.blk (i := 0) rfl)) ?_
      refine V (run_move e3_16) ?_
      refine V (mV (I _) rfl) ?_
      refine RL.callP rfl hH16 (c_hasse_Join _ _ _  _ (hT.hp hH16)) (run_call3 call117 rfl rfl rfl) ?_
      intro w19 hH20
      refine V (run_move (by conv => lhs; whnf)) ?_
      refine V (run_extract rfl (v := I _) rfl) ?_
      refine V (run_extract rfl (v := B _) rfl) ?_
      refine V (aV (I _) rfl) ?_
      refine V (aV (B _) rfl) ?_
      refine RL.nil ?_
      refine SR ?_
      refine V (run_ldRel underlying48 rfl rfl e1_16 (hH20.blk (i := 0) rfl)) ?_
      refine V (run_move e3_16) ?_
      refine V (mV (I _) rfl) ?_
      refine RL.callP rfl hH20 (c_hasse_Meet _ _ _  _ (hT.hp hH20)) (run_call3 call118 rfl rfl rfl) ?_
      intro w22 hH23
      refine V (run_move (by conv => lhs; whnf)) ?_
      refine V (run_extract rfl (v := I _) rfl) ?_
      refine V (run_extract rfl (v := B _) rfl) ?_
      refine V (aV (I _) rfl) ?_
      refine V (aV (B _) rfl) ?_
      refine RL.nil ?_
      refine SR ?_
      refine V (mV (B _) rfl) ?_
      refine V (run_not rfl) ?_
      refine V (mV (B _) rfl) ?_
      refine RL.split (dj := 47) rfl (fun h26 => ?_) (fun h26 => ?_)
      ·refine RL.gF rfl rfl (bR (c := true) h26) rfl ?_
       refine RL.gF rfl rfl (bR (c := true) h26) rfl ?_
       refine V (run_pickT (bR (c := true) h26) (v := B true) rfl) ?_
       refine RL.nil ?_
       refine CW.condT rfl ?_
       refine SR ?_
       refine V (aV (B false) rfl) ?_
       refine RL.nil ?_
       refine CW.ret ?_
       refine outP1 Tryz.results85 (congrArg B ?_) hH23.below
       first | exact (lat_no1 (by omega)).symm | exact (lat_no2 (nt ‹_›)).symm | exact (lat_no3 ‹i < r.n› j0 ‹j < i› (by rw [bothB, nt ‹(!(joinV r i j).2) = true›]; rfl)).symm | exact (lat_no3 ‹i < r.n› j0 ‹j < i› (by rw [bothB, nt ‹(!(meetV r i j).2) = true›]; simp)).symm | exact (lat_yes hn ho ‹_› hg).symm
      ·refine RL.gT rfl (bR (c := false) h26) ?_
       refine V (mV (B _) rfl) ?_
       refine RL.gT rfl (bR (c := false) h26) ?_
       refine V (run_not rfl) ?_
       refine V (run_pickF (bR (c := false) h26) (v := B _) rfl) ?_
       refine RL.nil ?_
       refine CW.cond rfl (fun h28 => ?_) (fun h28 => ?_)
       ·refine SR ?_
        refine V (aV (B false) rfl) ?_
        refine RL.nil ?_
        refine CW.ret ?_
        refine outP1 Tryz.results85 (congrArg B ?_) hH23.below
        first | exact (lat_no1 (by omega)).symm | exact (lat_no2 (nt ‹_›)).symm | exact (lat_no3 ‹i < r.n› j0 ‹j < i› (by rw [bothB, nt ‹(!(joinV r i j).2) = true›]; rfl)).symm | exact (lat_no3 ‹i < r.n› j0 ‹j < i› (by rw [bothB, nt ‹(!(meetV r i j).2) = true›]; simp)).symm | exact (lat_yes hn ho ‹_› hg).symm
       ·refine CW.skip ?_
        refine CW.region ?_
        refine V (run_add e28_16 rfl (by omega)) ?_
        refine V (mV (I _) rfl) ?_
        refine RL.nil ?_
        refine ⟨j + 1, ?_, fr16.u4.u4.u4.u4.u4.u4.u4.u1, hH23, (congrArg I (by first | rfl | omega)), ?_, ?_, ?_⟩
        ·((try dsimp only); omega)
        ·omega
        ·omega
        ·exact fun b x y => if e : b = j then e ▸ (by rw [bothB, Bool.and_eq_true]; exact ⟨nf ‹(!(joinV r i j).2) = false›, nf ‹(!(meetV r i j).2) = false›⟩) else hh b x (by omega)
     ·refine CW.exit (id := 2) rfl ?_
      refine CW.region ?_
      refine V (run_add e24_16 rfl (by omega)) ?_
      refine V (mV (I _) rfl) ?_
      refine RL.nil ?_
      refine ⟨i + 1, ?_, (((fr13.u4.u1).t fr16 rfl)).u1.u1.u1, hH16, (congrArg I (by first | rfl | omega)), ?_, ?_, ?_⟩
      ·((try dsimp only); omega)
      ·omega
      ·omega
      ·exact fun a b x y z => if e : a = i then e ▸ hh b x (by omega) else hg a b x y (by omega)
    ·refine CW.exit (id := 0) rfl ?_
     refine SR ?_
     refine V (aV (B true) rfl) ?_
     refine RL.nil ?_
     refine CW.ret ?_
     refine outP1 Tryz.results85 (congrArg B ?_) hH13.below
     first | exact (lat_no1 (by omega)).symm | exact (lat_no2 (nt ‹_›)).symm | exact (lat_no3 ‹i < r.n› j0 ‹j < i› (by rw [bothB, nt ‹(!(joinV r i j).2) = true›]; rfl)).symm | exact (lat_no3 ‹i < r.n› j0 ‹j < i› (by rw [bothB, nt ‹(!(meetV r i j).2) = true›]; simp)).symm | exact (lat_yes hn ho ‹_› hg).symm

theorem c_clearanceref06_Join (r : Rl) (i j : Int) (w : World) : Calls Tryz.prog 110 #[.agg (relC r), I i, I j] w (Pure (.tuple #[I (joinV r i j).1, B (joinV r i j).2]) w) := by
 have hp := pts_bd r
 refine enter Tryz.func110 rfl Tryz.ntmps110 rfl ?_
 have hH := Hp.start w
 refine SR ?_
 refine RL.new rfl hH (f := fun b => (.pointer (some ⟨b, 0, none⟩))) (run_box (v := .agg _) rfl) ?_
 intro b3 w1 hH2
 refine V (aV (I 0) rfl) ?_
 refine V (aV (B false) rfl) ?_
 refine RL.nil ?_
 refine CW.seq ?_
 refine SR ?_
 refine V (aV (I 0) rfl) ?_
 refine RL.nil ?_
 refine CW.block ?_
 refine CW.loop (G := (Int)) (fun (u : Int) s' w' => (Fr [6, 7, 8, 9, 10, 11, 12, 13, 14, 15, 16, 17, 18, 19, 20, 21, 22, 23, 24, 25, 26, 27, 28, 29, 30, 31, 32, 33, 34, 35, 36, 37, 38, 39, 40, 41, 42, 43, 44, 45, 46, 47, 48, 49, 50, 51] _ s') ∧ (Hp w w' _) ∧ (s' 8 = I u) ∧ (0 ≤ u) ∧ (u ≤ pts r) ∧ (∀ x : Int, 0 ≤ x → x < u → nearP (aboveR r) i j x = false)) (fun (u : Int) => (pts r - u).toNat) (0) ⟨Fr.refl _ _, hH2, rfl, (by omega), (by omega), fun x a b => absurd b (by omega)⟩ ?_
 rintro u sg4 w4 ⟨fr4, hH4, e8_4, u0, u1, hg⟩
 have e1_4 : sg4 1 = I _ := (fr4 1 rfl).trans rfl
 have e2_4 : sg4 2 = I _ := (fr4 2 rfl).trans rfl
 have e3_4 : sg4 3 = Pn _ _ := (fr4 3 rfl).trans rfl
 refine CW.seq ?_
 refine SR ?_
 refine V (run_move e8_4) ?_
 refine V (run_ldRel underlying48 rfl rfl e3_4 (hH4.blk (i := 0) rfl)) ?_
 refine RL.callP rfl hH4 (c_clearanceref03_Points _  _) (run_call1 call73 rfl) ?_
 intro w5 hH6
 refine V (run_lss rfl rfl) ?_
 refine RL.nil ?_
 refine CW.condP rfl (fun h8 => ?_) (fun h8 => ?_)
 ·refine CW.skip ?_
  refine CW.seq ?_
  refine CW.block ?_
  refine SR ?_
  refine V (run_ldRel underlying48 rfl rfl e3_4 (hH6.blk (i := 0) rfl)) ?_
  refine V (run_move e1_4) ?_
  refine V (run_move e8_4) ?_
  refine RL.callP rfl hH6 (c_clearanceref03_Has _ _ _  _) (run_call3 call94 rfl rfl rfl) ?_
  intro w9 hH10
  refine V (mV (B _) rfl) ?_
  refine RL.split (dj := 21) rfl (fun h12 => ?_) (fun h12 => ?_)
  ·refine RL.gT rfl (bR (c := true) h12) ?_
   refine V (run_ldRel underlying48 rfl rfl e3_4 (hH10.blk (i := 0) rfl)) ?_
   refine RL.gT rfl (bR (c := true) h12) ?_
   refine V (run_move e2_4) ?_
   refine RL.gT rfl (bR (c := true) h12) ?_
   refine V (run_move e8_4) ?_
   refine RL.gT rfl (bR (c := true) h12) ?_
   refine RL.callP rfl hH10 (c_clearanceref03_Has _ _ _  _) (run_call3 call94 rfl rfl rfl) ?_
   intro w13 hH14
   refine V (run_pickT (bR (c := true) h12) (v := B _) rfl) ?_
   refine V (aV (B _) rfl) ?_
   refine RL.nil ?_
   refine CW.seq ?_
   refine SR ?_
   refine V (aV (I 0) rfl) ?_
   refine RL.nil ?_
   refine CW.block ?_
   refine CW.loop (G := (Int)) (fun (v : Int) s' w' => (Fr [9, 10, 27, 28, 29, 30, 31, 32, 33, 34, 35, 36, 37, 38, 39, 40, 41, 42, 43, 44, 45, 46, 47, 48, 49] _ s') ∧ (Hp w w' _) ∧ (s' 9 = B (goodJ r i j u v)) ∧ (s' 10 = I v) ∧ (0 ≤ v) ∧ (v ≤ pts r)) (fun (v : Int) => (pts r - v).toNat) (0) ⟨Fr.refl _ _, hH14, (congrArg B (by simp [goodJ, upto, *])), rfl, (by omega), (by omega)⟩ ?_
   rintro v sg16 w16 ⟨fr16, hH16, e9_16, e10_16, v0, v1⟩
   have e1_16 := (fr16 1 rfl).trans e1_4
   have e2_16 := (fr16 2 rfl).trans e2_4
   have e3_16 := (fr16 3 rfl).trans e3_4
   have e8_16 := (fr16 8 rfl).trans e8_4
   have e11_16 : sg16 11 = I _ := (fr16 11 rfl).trans rfl
   have e12_16 : sg16 12 = .agg _ := (fr16 12 rfl).trans rfl
   have e13_16 : sg16 13 = I _ := (fr16 13 rfl).trans rfl
   have e14_16 : sg16 14 = B _ := (fr16 14 rfl).trans rfl
   have e17_16 : sg16 17 = .agg _ := (fr16 17 rfl).trans rfl
   have e18_16 : sg16 18 = I _ := (fr16 18 rfl).trans rfl
   have e19_16 : sg16 19 = I _ := (fr16 19 rfl).trans rfl
   have e20_16 : sg16 20 = B _ := (fr16 20 rfl).trans rfl
   have e21_16 : sg16 21 = B _ := (fr16 21 rfl).trans rfl
   have e22_16 : sg16 22 = .agg _ := (fr16 22 rfl).trans rfl
   have e23_16 : sg16 23 = I _ := (fr16 23 rfl).trans rfl
   have e24_16 : sg16 24 = I _ := (fr16 24 rfl).trans rfl
   have e25_16 : sg16 25 = B _ := (fr16 25 rfl).trans rfl
   have e26_16 : sg16 26 = B _ := (fr16 26 rfl).trans rfl
   refine CW.seq ?_
   refine SR ?_
   refine V (run_move e10_16) ?_
   refine V (run_ldRel underlying48 rfl rfl e3_16 (hH16.blk (i := 0) rfl)) ?_
   refine RL.callP rfl hH16 (c_clearanceref03_Points _  _) (run_call1 call73 rfl) ?_
   intro w18 hH19
   refine V (run_lss rfl rfl) ?_
   refine RL.nil ?_
   refine CW.condP rfl (fun h21 => ?_) (fun h21 => ?_)
   ·refine CW.skip ?_
    refine CW.seq ?_
    refine CW.block ?_
    refine SR ?_
    refine V (run_ldRel underlying48 rfl rfl e3_16 (hH19.blk (i := 0) rfl)) ?_
    refine V (run_move e1_16) ?_
    refine V (run_move e10_16) ?_
    refine RL.callP rfl hH19 (c_clearanceref03_Has _ _ _  _) (run_call3 call94 rfl rfl rfl) ?_
    intro w22 hH23
    refine V (mV (B _) rfl) ?_
    refine RL.split (dj := 37) rfl (fun h25 => ?_) (fun h25 => ?_)
    ·refine RL.gT rfl (bR (c := true) h25) ?_
     refine V (run_ldRel underlying48 rfl rfl e3_16 (hH23.blk (i := 0) rfl)) ?_
     refine RL.gT rfl (bR (c := true) h25) ?_
     refine V (run_move e2_16) ?_
     refine RL.gT rfl (bR (c := true) h25) ?_
     refine V (run_move e10_16) ?_
     refine RL.gT rfl (bR (c := true) h25) ?_
     refine RL.callP rfl hH23 (c_clearanceref03_Has _ _ _  _) (run_call3 call94 rfl rfl rfl) ?_
     intro w26 hH27
     refine V (run_pickT (bR (c := true) h25) (v := B _) rfl) ?_
     refine V (mV (B _) rfl) ?_
     refine RL.split (dj := 43) rfl (fun h29 => ?_) (fun h29 => ?_)
     ·refine RL.gT rfl (bR (c := true) h29) ?_
      refine V (run_ldRel underlying48 rfl rfl e3_16 (hH27.blk (i := 0) rfl)) ?_
      refine RL.gT rfl (bR (c := true) h29) ?_
      refine V (run_move e8_16) ?_
      refine RL.gT rfl (bR (c := true) h29) ?_
      refine V (run_move e10_16) ?_
      refine RL.gT rfl (bR (c := true) h29) ?_
      refine RL.callP rfl hH27 (c_clearanceref03_Has _ _ _  _) (run_call3 call94 rfl rfl rfl) ?_
      intro w30 hH31
      refine RL.gT rfl (bR (c := true) h29) ?_
      refine V (run_not rfl) ?_
      refine V (run_pickT (bR (c := true) h29) (v := B _) rfl) ?_
      refine RL.nil ?_
      refine CW.cond rfl (fun h34 => ?_) (fun h34 => ?_)
      ·refine CW.region ?_
       refine V (aV (B false) rfl) ?_
       refine RL.nil ?_
       refine CW.region ?_
       refine V (run_move e10_16) ?_
       refine V (run_add rfl rfl (by omega)) ?_
       refine V (aV (I _) rfl) ?_
       refine RL.nil ?_
       refine ⟨v + 1, ?_, fr16.u4.u4.u4.u4.u4.u4.u1, hH31, (congrArg B (by rw [goodJ_next v0]; simp [*])), (congrArg I (by first | rfl | omega)), ?_, ?_⟩
       ·((try dsimp only); omega)
       ·omega
       ·omega
      ·refine CW.skip ?_
       refine CW.region ?_
       refine V (run_move e10_16) ?_
       refine V (run_add rfl rfl (by omega)) ?_
       refine V (aV (I _) rfl) ?_
       refine RL.nil ?_
       refine ⟨v + 1, ?_, fr16.u4.u4.u4.u4.u4.u4, hH31, (Eq.trans e9_16 (congrArg B (by rw [goodJ_next v0]; simp [*]))), (congrArg I (by first | rfl | omega)), ?_, ?_⟩
       ·((try dsimp only); omega)
       ·omega
       ·omega
     ·refine RL.gF rfl rfl (bR (c := false) h29) rfl ?_
      refine RL.gF rfl rfl (bR (c := false) h29) rfl ?_
      refine RL.gF rfl rfl (bR (c := false) h29) rfl ?_
      refine RL.gF rfl rfl (bR (c := false) h29) rfl ?_
      refine RL.gF rfl rfl (bR (c := false) h29) rfl ?_
      refine V (run_pickF (bR (c := false) h29) (v := B false) rfl) ?_
      refine RL.nil ?_
      refine CW.condF rfl ?_
      refine CW.skip ?_
      refine CW.region ?_
      refine V (run_move e10_16) ?_
      refine V (run_add rfl rfl (by omega)) ?_
      refine V (aV (I _) rfl) ?_
      refine RL.nil ?_
      refine ⟨v + 1, ?_, fr16.u4.u4.u4.u4.u4.u4, hH27, (Eq.trans e9_16 (congrArg B (by rw [goodJ_next v0]; simp [*]))), (congrArg I (by first | rfl | omega)), ?_, ?_⟩
      ·((try dsimp only); omega)
      ·omega
      ·omega
    ·refine RL.gF rfl rfl (bR (c := false) h25) rfl ?_
     refine RL.gF rfl rfl (bR (c := false) h25) rfl ?_
     refine RL.gF rfl rfl (bR (c := false) h25) rfl ?_
     refine RL.gF rfl rfl (bR (c := false) h25) rfl ?_
     refine V (run_pickF (bR (c := false) h25) (v := B false) rfl) ?_
     refine V (mV (B _) rfl) ?_
     refine RL.gF rfl rfl rfl rfl ?_
     refine RL.gF rfl rfl rfl rfl ?_
     refine RL.gF rfl rfl rfl rfl ?_
     refine RL.gF rfl rfl rfl rfl ?_
     refine RL.gF rfl rfl rfl rfl ?_
     refine V (run_pickF rfl (v := B false) rfl) ?_
     refine RL.nil ?_
     refine CW.condF rfl ?_
     refine CW.skip ?_
     refine CW.region ?_
     refine V (run_move e10_16) ?_
     refine V (run_add rfl rfl (by omega)) ?_
     refine V (aV (I _) rfl) ?_
     refine RL.nil ?_
     refine ⟨v + 1, ?_, fr16.u4.u4.u4.u4.u4.u4, hH23, (Eq.trans e9_16 (congrArg B (by rw [goodJ_next v0]; simp [*]))), (congrArg I (by first | rfl | omega)), ?_, ?_⟩
     ·((try dsimp only); omega)
     ·omega
     ·omega
   ·refine CW.exit (id := 2) rfl ?_
    refine SR ?_
    refine V (run_move e9_16) ?_
    refine RL.nil ?_
    refine CW.cond rfl (fun h35 => ?_) (fun h35 => ?_)
    ·refine SR ?_
     refine V (run_move e8_16) ?_
     refine V (aV (I _) rfl) ?_
     refine V (aV (B true) rfl) ?_
     refine RL.nil ?_
     refine CW.ret ?_
     first | (refine outP2 Tryz.results110 (congrArg I ?_) (congrArg B ?_) hH19.below <;> rw [join_yes u0 ‹_› (show v = pts r by omega) ‹_› hg]) | (refine outP2 Tryz.results110 (congrArg I ?_) (congrArg B ?_) hH19.below <;> rw [join_no ‹_› hg])
    ·refine CW.skip ?_
     refine CW.region ?_
     refine V (run_move e8_16) ?_
     refine V (run_add rfl rfl (by omega)) ?_
     refine V (aV (I _) rfl) ?_
     refine RL.nil ?_
     refine ⟨u + 1, ?_, (((fr4.u4.u4.u4.u4).t fr16 rfl)).u4.u4, hH19, (congrArg I (by first | rfl | omega)), ?_, ?_, ?_⟩
     ·((try dsimp only); omega)
     ·omega
     ·omega
     ·exact fun x a b => if e : x = u then e ▸ (by rw [near_join r i j u (show v = pts r by omega)]; assumption) else hg x a (by omega)
  ·refine RL.gF rfl rfl (bR (c := false) h12) rfl ?_
   refine RL.gF rfl rfl (bR (c := false) h12) rfl ?_
   refine RL.gF rfl rfl (bR (c := false) h12) rfl ?_
   refine RL.gF rfl rfl (bR (c := false) h12) rfl ?_
   refine V (run_pickF (bR (c := false) h12) (v := B false) rfl) ?_
   refine V (aV (B _) rfl) ?_
   refine RL.nil ?_
   refine CW.seq ?_
   refine SR ?_
   refine V (aV (I 0) rfl) ?_
   refine RL.nil ?_
   refine CW.block ?_
   refine CW.loop (G := (Int)) (fun (v : Int) s' w' => (Fr [9, 10, 27, 28, 29, 30, 31, 32, 33, 34, 35, 36, 37, 38, 39, 40, 41, 42, 43, 44, 45, 46, 47, 48, 49] _ s') ∧ (Hp w w' _) ∧ (s' 9 = B (goodJ r i j u v)) ∧ (s' 10 = I v) ∧ (0 ≤ v) ∧ (v ≤ pts r)) (fun (v : Int) => (pts r - v).toNat) (0) ⟨Fr.refl _ _, hH10, (congrArg B (by simp [goodJ, upto, *])), rfl, (by omega), (by omega)⟩ ?_
   rintro v sg36 w36 ⟨fr36, hH36, e9_36, e10_36, v0, v1⟩
   have e1_36 := (fr36 1 rfl).trans e1_4
   have e2_36 := (fr36 2 rfl).trans e2_4
   have e3_36 := (fr36 3 rfl).trans e3_4
   have e8_36 := (fr36 8 rfl).trans e8_4
   have e11_36 : sg36 11 = I _ := (fr36 11 rfl).trans rfl
   have e12_36 : sg36 12 = .agg _ := (fr36 12 rfl).trans rfl
   have e13_36 : sg36 13 = I _ := (fr36 13 rfl).trans rfl
   have e14_36 : sg36 14 = B _ := (fr36 14 rfl).trans rfl
   have e17_36 : sg36 17 = .agg _ := (fr36 17 rfl).trans rfl
   have e18_36 : sg36 18 = I _ := (fr36 18 rfl).trans rfl
   have e19_36 : sg36 19 = I _ := (fr36 19 rfl).trans rfl
   have e20_36 : sg36 20 = B _ := (fr36 20 rfl).trans rfl
   have e21_36 : sg36 21 = B _ := (fr36 21 rfl).trans rfl
   have e22_36 := (fr36 22 rfl).trans (by conv => lhs; whnf)
   have e23_36 := (fr36 23 rfl).trans (by conv => lhs; whnf)
   have e24_36 := (fr36 24 rfl).trans (by conv => lhs; whnf)
   have e25_36 := (fr36 25 rfl).trans (by conv => lhs; whnf)
   have e26_36 : sg36 26 = B _ := (fr36 26 rfl).trans rfl
   refine CW.seq ?_
   refine SR ?_
   refine V (run_move e10_36) ?_
   refine V (run_ldRel underlying48 rfl rfl e3_36 (hH36.blk (i := 0) rfl)) ?_
   refine RL.callP rfl hH36 (c_clearanceref03_Points _  _) (run_call1 call73 rfl) ?_
   intro w38 hH39
   refine V (run_lss rfl rfl) ?_
   refine RL.nil ?_
   refine CW.condP rfl (fun h41 => ?_) (fun h41 => ?_)
   ·refine CW.skip ?_
    refine CW.seq ?_
    refine CW.block ?_
    refine SR ?_
    refine V (run_ldRel underlying48 rfl rfl e3_36 (hH39.blk (i := 0) rfl)) ?_
    refine V (run_move e1_36) ?_
    refine V (run_move e10_36) ?_
    refine RL.callP rfl hH39 (c_clearanceref03_Has _ _ _  _) (run_call3 call94 rfl rfl rfl) ?_
    intro w42 hH43
    refine V (mV (B _) rfl) ?_
    refine RL.split (dj := 37) rfl (fun h45 => ?_) (fun h45 => ?_)
    ·refine RL.gT rfl (bR (c := true) h45) ?_
     refine V (run_ldRel underlying48 rfl rfl e3_36 (hH43.blk (i := 0) rfl)) ?_
     refine RL.gT rfl (bR (c := true) h45) ?_
     refine V (run_move e2_36) ?_
     refine RL.gT rfl (bR (c := true) h45) ?_
     refine V (run_move e10_36) ?_
     refine RL.gT rfl (bR (c := true) h45) ?_
     refine RL.callP rfl hH43 (c_clearanceref03_Has _ _ _  _) (run_call3 call94 rfl rfl rfl) ?_
     intro w46 hH47
     refine V (run_pickT (bR (c := true) h45) (v := B _) rfl) ?_
     refine V (mV (B _) rfl) ?_
     refine RL.split (dj := 43) rfl (fun h49 => ?_) (fun h49 => ?_)
     ·refine RL.gT rfl (bR (c := true) h49) ?_
      refine V (run_ldRel underlying48 rfl rfl e3_36 (hH47.blk (i := 0) rfl)) ?_
      refine RL.gT rfl (bR (c := true) h49) ?_
      refine V (run_move e8_36) ?_
      refine RL.gT rfl (bR (c := true) h49) ?_
      refine V (run_move e10_36) ?_
      refine RL.gT rfl (bR (c := true) h49) ?_
      refine RL.callP rfl hH47 (c_clearanceref03_Has _ _ _  _) (run_call3 call94 rfl rfl rfl) ?_
      intro w50 hH51
      refine RL.gT rfl (bR (c := true) h49) ?_
      refine V (run_not rfl) ?_
      refine V (run_pickT (bR (c := true) h49) (v := B _) rfl) ?_
      refine RL.nil ?_
      refine CW.cond rfl (fun h54 => ?_) (fun h54 => ?_)
      ·refine CW.region ?_
       refine V (aV (B false) rfl) ?_
       refine RL.nil ?_
       refine CW.region ?_
       refine V (run_move e10_36) ?_
       refine V (run_add rfl rfl (by omega)) ?_
       refine V (aV (I _) rfl) ?_
       refine RL.nil ?_
       refine ⟨v + 1, ?_, fr36.u4.u4.u4.u4.u4.u4.u1, hH51, (congrArg B (by rw [goodJ_next v0]; simp [*])), (congrArg I (by first | rfl | omega)), ?_, ?_⟩
       ·((try dsimp only); omega)
       ·omega
       ·omega
      ·refine CW.skip ?_
       refine CW.region ?_
       refine V (run_move e10_36) ?_
       refine V (run_add rfl rfl (by omega)) ?_
       refine V (aV (I _) rfl) ?_
       refine RL.nil ?_
       refine ⟨v + 1, ?_, fr36.u4.u4.u4.u4.u4.u4, hH51, (Eq.trans e9_36 (congrArg B (by rw [goodJ_next v0]; simp [*]))), (congrArg I (by first | rfl | omega)), ?_, ?_⟩
       ·((try dsimp only); omega)
       ·omega
       ·omega
     ·refine RL.gF rfl rfl (bR (c := false) h49) rfl ?_
      refine RL.gF rfl rfl (bR (c := false) h49) rfl ?_
      refine RL.gF rfl rfl (bR (c := false) h49) rfl ?_
      refine RL.gF rfl rfl (bR (c := false) h49) rfl ?_
      refine RL.gF rfl rfl (bR (c := false) h49) rfl ?_
      refine V (run_pickF (bR (c := false) h49) (v := B false) rfl) ?_
      refine RL.nil ?_
      refine CW.condF rfl ?_
      refine CW.skip ?_
      refine CW.region ?_
      refine V (run_move e10_36) ?_
      refine V (run_add rfl rfl (by omega)) ?_
      refine V (aV (I _) rfl) ?_
      refine RL.nil ?_
      refine ⟨v + 1, ?_, fr36.u4.u4.u4.u4.u4.u4, hH47, (Eq.trans e9_36 (congrArg B (by rw [goodJ_next v0]; simp [*]))), (congrArg I (by first | rfl | omega)), ?_, ?_⟩
      ·((try dsimp only); omega)
      ·omega
      ·omega
    ·refine RL.gF rfl rfl (bR (c := false) h45) rfl ?_
     refine RL.gF rfl rfl (bR (c := false) h45) rfl ?_
     refine RL.gF rfl rfl (bR (c := false) h45) rfl ?_
     refine RL.gF rfl rfl (bR (c := false) h45) rfl ?_
     refine V (run_pickF (bR (c := false) h45) (v := B false) rfl) ?_
     refine V (mV (B _) rfl) ?_
     refine RL.gF rfl rfl rfl rfl ?_
     refine RL.gF rfl rfl rfl rfl ?_
     refine RL.gF rfl rfl rfl rfl ?_
     refine RL.gF rfl rfl rfl rfl ?_
     refine RL.gF rfl rfl rfl rfl ?_
     refine V (run_pickF rfl (v := B false) rfl) ?_
     refine RL.nil ?_
     refine CW.condF rfl ?_
     refine CW.skip ?_
     refine CW.region ?_
     refine V (run_move e10_36) ?_
     refine V (run_add rfl rfl (by omega)) ?_
     refine V (aV (I _) rfl) ?_
     refine RL.nil ?_
     refine ⟨v + 1, ?_, fr36.u4.u4.u4.u4.u4.u4, hH43, (Eq.trans e9_36 (congrArg B (by rw [goodJ_next v0]; simp [*]))), (congrArg I (by first | rfl | omega)), ?_, ?_⟩
     ·((try dsimp only); omega)
     ·omega
     ·omega
   ·refine CW.exit (id := 2) rfl ?_
    refine SR ?_
    refine V (run_move e9_36) ?_
    refine RL.nil ?_
    refine CW.cond rfl (fun h55 => ?_) (fun h55 => ?_)
    ·refine SR ?_
     refine V (run_move e8_36) ?_
     refine V (aV (I _) rfl) ?_
     refine V (aV (B true) rfl) ?_
     refine RL.nil ?_
     refine CW.ret ?_
     first | (refine outP2 Tryz.results110 (congrArg I ?_) (congrArg B ?_) hH39.below <;> rw [join_yes u0 ‹_› (show v = pts r by omega) ‹_› hg]) | (refine outP2 Tryz.results110 (congrArg I ?_) (congrArg B ?_) hH39.below <;> rw [join_no ‹_› hg])
    ·refine CW.skip ?_
     refine CW.region ?_
     refine V (run_move e8_36) ?_
     refine V (run_add rfl rfl (by omega)) ?_
     refine V (aV (I _) rfl) ?_
     refine RL.nil ?_
     refine ⟨u + 1, ?_, (((fr4.u4.u4.u4.u4).t fr36 rfl)).u4.u4, hH39, (congrArg I (by first | rfl | omega)), ?_, ?_, ?_⟩
     ·((try dsimp only); omega)
     ·omega
     ·omega
     ·exact fun x a b => if e : x = u then e ▸ (by rw [near_join r i j u (show v = pts r by omega)]; assumption) else hg x a (by omega)
 ·refine CW.exit (id := 0) rfl ?_
  refine SR ?_
  refine V (aV (I 0) rfl) ?_
  refine V (aV (B false) rfl) ?_
  refine RL.nil ?_
  refine CW.ret ?_
  first | (refine outP2 Tryz.results110 (congrArg I ?_) (congrArg B ?_) hH6.below <;> rw [join_yes u0 ‹_› (show v = pts r by omega) ‹_› hg]) | (refine outP2 Tryz.results110 (congrArg I ?_) (congrArg B ?_) hH6.below <;> rw [join_no ‹_› hg])

theorem c_clearanceref06_Meet (r : Rl) (i j : Int) (w : World) : Calls Tryz.prog 111 #[.agg (relC r), I i, I j] w (Pure (.tuple #[I (meetV r i j).1, B (meetV r i j).2]) w) := by
 have hp := pts_bd r
 refine enter Tryz.func111 rfl Tryz.ntmps111 rfl ?_
 have hH := Hp.start w
 refine SR ?_
 refine RL.new rfl hH (f := fun b => (.pointer (some ⟨b, 0, none⟩))) (run_box (v := .agg _) rfl) ?_
 intro b3 w1 hH2
 refine V (aV (I 0) rfl) ?_
 refine V (aV (B false) rfl) ?_
 refine RL.nil ?_
 refine CW.seq ?_
 refine SR ?_
 refine V (aV (I 0) rfl) ?_
 refine RL.nil ?_
 refine CW.block ?_
 refine CW.loop (G := (Int)) (fun (u : Int) s' w' => (Fr [6, 7, 8, 9, 10, 11, 12, 13, 14, 15, 16, 17, 18, 19, 20, 21, 22, 23, 24, 25, 26, 27, 28, 29, 30, 31, 32, 33, 34, 35, 36, 37, 38, 39, 40, 41, 42, 43, 44, 45, 46, 47, 48, 49, 50, 51] _ s') ∧ (Hp w w' _) ∧ (s' 8 = I u) ∧ (0 ≤ u) ∧ (u ≤ pts r) ∧ (∀ x : Int, 0 ≤ x → x < u → nearP (belowR r) i j x = false)) (fun (u : Int) => (pts r - u).toNat) (0) ⟨Fr.refl _ _, hH2, rfl, (by omega), (by omega), fun x a b => absurd b (by omega)⟩ ?_
 rintro u sg4 w4 ⟨fr4, hH4, e8_4, u0, u1, hg⟩
 have e1_4 : sg4 1 = I _ := (fr4 1 rfl).trans rfl
 have e2_4 : sg4 2 = I _ := (fr4 2 rfl).trans rfl
 have e3_4 : sg4 3 = Pn _ _ := (fr4 3 rfl).trans rfl
 refine CW.seq ?_
 refine SR ?_
 refine V (run_move e8_4) ?_
 refine V (run_ldRel underlying48 rfl rfl e3_4 (hH4.blk (i := 0) rfl)) ?_
 refine RL.callP rfl hH4 (c_clearanceref03_Points _  _) (run_call1 call73 rfl) ?_
 intro w5 hH6
 refine V (run_lss rfl rfl) ?_
 refine RL.nil ?_
 refine CW.condP rfl (fun h8 => ?_) (fun h8 => ?_)
 ·refine CW.skip ?_
  refine CW.seq ?_
  refine CW.block ?_
  refine SR ?_
  refine V (run_ldRel underlying48 rfl rfl e3_4 (hH6.blk (i := 0) rfl)) ?_
  refine V (run_move e8_4) ?_
  refine V (run_move e1_4) ?_
  refine RL.callP rfl hH6 (c_clearanceref03_Has _ _ _  _) (run_call3 call94 rfl rfl rfl) ?_
  intro w9 hH10
  refine V (mV (B _) rfl) ?_
  refine RL.split (dj := 21) rfl (fun h12 => ?_) (fun h12 => ?_)
  ·refine RL.gT rfl (bR (c := true) h12) ?_
   refine V (run_ldRel underlying48 rfl rfl e3_4 (hH10.blk (i := 0) rfl)) ?_
   refine RL.gT rfl (bR (c := true) h12) ?_
   refine V (run_move e8_4) ?_
   refine RL.gT rfl (bR (c := true) h12) ?_
   refine V (run_move e2_4) ?_
   refine RL.gT rfl (bR (c := true) h12) ?_
   refine RL.callP rfl hH10 (c_clearanceref03_Has _ _ _  _) (run_call3 call94 rfl rfl rfl) ?_
   intro w13 hH14
   refine V (run_pickT (bR (c := true) h12) (v := B _) rfl) ?_
   refine V (aV (B _) rfl) ?_
   refine RL.nil ?_
   refine CW.seq ?_
   refine SR ?_
   refine V (aV (I 0) rfl) ?_
   refine RL.nil ?_
   refine CW.block ?_
   refine CW.loop (G := (Int)) (fun (v : Int) s' w' => (Fr [9, 10, 27, 28, 29, 30, 31, 32, 33, 34, 35, 36, 37, 38, 39, 40, 41, 42, 43, 44, 45, 46, 47, 48, 49] _ s') ∧ (Hp w w' _) ∧ (s' 9 = B (goodM r i j u v)) ∧ (s' 10 = I v) ∧ (0 ≤ v) ∧ (v ≤ pts r)) (fun (v : Int) => (pts r - v).toNat) (0) ⟨Fr.refl _ _, hH14, (congrArg B (by simp [goodM, upto, *])), rfl, (by omega), (by omega)⟩ ?_
   rintro v sg16 w16 ⟨fr16, hH16, e9_16, e10_16, v0, v1⟩
   have e1_16 := (fr16 1 rfl).trans e1_4
   have e2_16 := (fr16 2 rfl).trans e2_4
   have e3_16 := (fr16 3 rfl).trans e3_4
   have e8_16 := (fr16 8 rfl).trans e8_4
   have e11_16 : sg16 11 = I _ := (fr16 11 rfl).trans rfl
   have e12_16 : sg16 12 = .agg _ := (fr16 12 rfl).trans rfl
   have e13_16 : sg16 13 = I _ := (fr16 13 rfl).trans rfl
   have e14_16 : sg16 14 = B _ := (fr16 14 rfl).trans rfl
   have e17_16 : sg16 17 = .agg _ := (fr16 17 rfl).trans rfl
   have e18_16 : sg16 18 = I _ := (fr16 18 rfl).trans rfl
   have e19_16 : sg16 19 = I _ := (fr16 19 rfl).trans rfl
   have e20_16 : sg16 20 = B _ := (fr16 20 rfl).trans rfl
   have e21_16 : sg16 21 = B _ := (fr16 21 rfl).trans rfl
   have e22_16 : sg16 22 = .agg _ := (fr16 22 rfl).trans rfl
   have e23_16 : sg16 23 = I _ := (fr16 23 rfl).trans rfl
   have e24_16 : sg16 24 = I _ := (fr16 24 rfl).trans rfl
   have e25_16 : sg16 25 = B _ := (fr16 25 rfl).trans rfl
   have e26_16 : sg16 26 = B _ := (fr16 26 rfl).trans rfl
   refine CW.seq ?_
   refine SR ?_
   refine V (run_move e10_16) ?_
   refine V (run_ldRel underlying48 rfl rfl e3_16 (hH16.blk (i := 0) rfl)) ?_
   refine RL.callP rfl hH16 (c_clearanceref03_Points _  _) (run_call1 call73 rfl) ?_
   intro w18 hH19
   refine V (run_lss rfl rfl) ?_
   refine RL.nil ?_
   refine CW.condP rfl (fun h21 => ?_) (fun h21 => ?_)
   ·refine CW.skip ?_
    refine CW.seq ?_
    refine CW.block ?_
    refine SR ?_
    refine V (run_ldRel underlying48 rfl rfl e3_16 (hH19.blk (i := 0) rfl)) ?_
    refine V (run_move e10_16) ?_
    refine V (run_move e1_16) ?_
    refine RL.callP rfl hH19 (c_clearanceref03_Has _ _ _  _) (run_call3 call94 rfl rfl rfl) ?_
    intro w22 hH23
    refine V (mV (B _) rfl) ?_
    refine RL.split (dj := 37) rfl (fun h25 => ?_) (fun h25 => ?_)
    ·refine RL.gT rfl (bR (c := true) h25) ?_
     refine V (run_ldRel underlying48 rfl rfl e3_16 (hH23.blk (i := 0) rfl)) ?_
     refine RL.gT rfl (bR (c := true) h25) ?_
     refine V (run_move e10_16) ?_
     refine RL.gT rfl (bR (c := true) h25) ?_
     refine V (run_move e2_16) ?_
     refine RL.gT rfl (bR (c := true) h25) ?_
     refine RL.callP rfl hH23 (c_clearanceref03_Has _ _ _  _) (run_call3 call94 rfl rfl rfl) ?_
     intro w26 hH27
     refine V (run_pickT (bR (c := true) h25) (v := B _) rfl) ?_
     refine V (mV (B _) rfl) ?_
     refine RL.split (dj := 43) rfl (fun h29 => ?_) (fun h29 => ?_)
     ·refine RL.gT rfl (bR (c := true) h29) ?_
      refine V (run_ldRel underlying48 rfl rfl e3_16 (hH27.blk (i := 0) rfl)) ?_
      refine RL.gT rfl (bR (c := true) h29) ?_
      refine V (run_move e10_16) ?_
      refine RL.gT rfl (bR (c := true) h29) ?_
      refine V (run_move e8_16) ?_
      refine RL.gT rfl (bR (c := true) h29) ?_
      refine RL.callP rfl hH27 (c_clearanceref03_Has _ _ _  _) (run_call3 call94 rfl rfl rfl) ?_
      intro w30 hH31
      refine RL.gT rfl (bR (c := true) h29) ?_
      refine V (run_not rfl) ?_
      refine V (run_pickT (bR (c := true) h29) (v := B _) rfl) ?_
      refine RL.nil ?_
      refine CW.cond rfl (fun h34 => ?_) (fun h34 => ?_)
      ·refine CW.region ?_
       refine V (aV (B false) rfl) ?_
       refine RL.nil ?_
       refine CW.region ?_
       refine V (run_move e10_16) ?_
       refine V (run_add rfl rfl (by omega)) ?_
       refine V (aV (I _) rfl) ?_
       refine RL.nil ?_
       refine ⟨v + 1, ?_, fr16.u4.u4.u4.u4.u4.u4.u1, hH31, (congrArg B (by rw [goodM_next v0]; simp [*])), (congrArg I (by first | rfl | omega)), ?_, ?_⟩
       ·((try dsimp only); omega)
       ·omega
       ·omega
      ·refine CW.skip ?_
       refine CW.region ?_
       refine V (run_move e10_16) ?_
       refine V (run_add rfl rfl (by omega)) ?_
       refine V (aV (I _) rfl) ?_
       refine RL.nil ?_
       refine ⟨v + 1, ?_, fr16.u4.u4.u4.u4.u4.u4, hH31, (Eq.trans e9_16 (congrArg B (by rw [goodM_next v0]; simp [*]))), (congrArg I (by first | rfl | omega)), ?_, ?_⟩
       ·((try dsimp only); omega)
       ·omega
       ·omega
     ·refine RL.gF rfl rfl (bR (c := false) h29) rfl ?_
      refine RL.gF rfl rfl (bR (c := false) h29) rfl ?_
      refine RL.gF rfl rfl (bR (c := false) h29) rfl ?_
      refine RL.gF rfl rfl (bR (c := false) h29) rfl ?_
      refine RL.gF rfl rfl (bR (c := false) h29) rfl ?_
      refine V (run_pickF (bR (c := false) h29) (v := B false) rfl) ?_
      refine RL.nil ?_
      refine CW.condF rfl ?_
      refine CW.skip ?_
      refine CW.region ?_
      refine V (run_move e10_16) ?_
      refine V (run_add rfl rfl (by omega)) ?_
      refine V (aV (I _) rfl) ?_
      refine RL.nil ?_
      refine ⟨v + 1, ?_, fr16.u4.u4.u4.u4.u4.u4, hH27, (Eq.trans e9_16 (congrArg B (by rw [goodM_next v0]; simp [*]))), (congrArg I (by first | rfl | omega)), ?_, ?_⟩
      ·((try dsimp only); omega)
      ·omega
      ·omega
    ·refine RL.gF rfl rfl (bR (c := false) h25) rfl ?_
     refine RL.gF rfl rfl (bR (c := false) h25) rfl ?_
     refine RL.gF rfl rfl (bR (c := false) h25) rfl ?_
     refine RL.gF rfl rfl (bR (c := false) h25) rfl ?_
     refine V (run_pickF (bR (c := false) h25) (v := B false) rfl) ?_
     refine V (mV (B _) rfl) ?_
     refine RL.gF rfl rfl rfl rfl ?_
     refine RL.gF rfl rfl rfl rfl ?_
     refine RL.gF rfl rfl rfl rfl ?_
     refine RL.gF rfl rfl rfl rfl ?_
     refine RL.gF rfl rfl rfl rfl ?_
     refine V (run_pickF rfl (v := B false) rfl) ?_
     refine RL.nil ?_
     refine CW.condF rfl ?_
     refine CW.skip ?_
     refine CW.region ?_
     refine V (run_move e10_16) ?_
     refine V (run_add rfl rfl (by omega)) ?_
     refine V (aV (I _) rfl) ?_
     refine RL.nil ?_
     refine ⟨v + 1, ?_, fr16.u4.u4.u4.u4.u4.u4, hH23, (Eq.trans e9_16 (congrArg B (by rw [goodM_next v0]; simp [*]))), (congrArg I (by first | rfl | omega)), ?_, ?_⟩
     ·((try dsimp only); omega)
     ·omega
     ·omega
   ·refine CW.exit (id := 2) rfl ?_
    refine SR ?_
    refine V (run_move e9_16) ?_
    refine RL.nil ?_
    refine CW.cond rfl (fun h35 => ?_) (fun h35 => ?_)
    ·refine SR ?_
     refine V (run_move e8_16) ?_
     refine V (aV (I _) rfl) ?_
     refine V (aV (B true) rfl) ?_
     refine RL.nil ?_
     refine CW.ret ?_
     first | (refine outP2 Tryz.results111 (congrArg I ?_) (congrArg B ?_) hH19.below <;> rw [meet_yes u0 ‹_› (show v = pts r by omega) ‹_› hg]) | (refine outP2 Tryz.results111 (congrArg I ?_) (congrArg B ?_) hH19.below <;> rw [meet_no ‹_› hg])
    ·refine CW.skip ?_
     refine CW.region ?_
     refine V (run_move e8_16) ?_
     refine V (run_add rfl rfl (by omega)) ?_
     refine V (aV (I _) rfl) ?_
     refine RL.nil ?_
     refine ⟨u + 1, ?_, (((fr4.u4.u4.u4.u4).t fr16 rfl)).u4.u4, hH19, (congrArg I (by first | rfl | omega)), ?_, ?_, ?_⟩
     ·((try dsimp only); omega)
     ·omega
     ·omega
     ·exact fun x a b => if e : x = u then e ▸ (by rw [near_meet r i j u (show v = pts r by omega)]; assumption) else hg x a (by omega)
  ·refine RL.gF rfl rfl (bR (c := false) h12) rfl ?_
   refine RL.gF rfl rfl (bR (c := false) h12) rfl ?_
   refine RL.gF rfl rfl (bR (c := false) h12) rfl ?_
   refine RL.gF rfl rfl (bR (c := false) h12) rfl ?_
   refine V (run_pickF (bR (c := false) h12) (v := B false) rfl) ?_
   refine V (aV (B _) rfl) ?_
   refine RL.nil ?_
   refine CW.seq ?_
   refine SR ?_
   refine V (aV (I 0) rfl) ?_
   refine RL.nil ?_
   refine CW.block ?_
   refine CW.loop (G := (Int)) (fun (v : Int) s' w' => (Fr [9, 10, 27, 28, 29, 30, 31, 32, 33, 34, 35, 36, 37, 38, 39, 40, 41, 42, 43, 44, 45, 46, 47, 48, 49] _ s') ∧ (Hp w w' _) ∧ (s' 9 = B (goodM r i j u v)) ∧ (s' 10 = I v) ∧ (0 ≤ v) ∧ (v ≤ pts r)) (fun (v : Int) => (pts r - v).toNat) (0) ⟨Fr.refl _ _, hH10, (congrArg B (by simp [goodM, upto, *])), rfl, (by omega), (by omega)⟩ ?_
   rintro v sg36 w36 ⟨fr36, hH36, e9_36, e10_36, v0, v1⟩
   have e1_36 := (fr36 1 rfl).trans e1_4
   have e2_36 := (fr36 2 rfl).trans e2_4
   have e3_36 := (fr36 3 rfl).trans e3_4
   have e8_36 := (fr36 8 rfl).trans e8_4
   have e11_36 : sg36 11 = I _ := (fr36 11 rfl).trans rfl
   have e12_36 : sg36 12 = .agg _ := (fr36 12 rfl).trans rfl
   have e13_36 : sg36 13 = I _ := (fr36 13 rfl).trans rfl
   have e14_36 : sg36 14 = B _ := (fr36 14 rfl).trans rfl
   have e17_36 : sg36 17 = .agg _ := (fr36 17 rfl).trans rfl
   have e18_36 : sg36 18 = I _ := (fr36 18 rfl).trans rfl
   have e19_36 : sg36 19 = I _ := (fr36 19 rfl).trans rfl
   have e20_36 : sg36 20 = B _ := (fr36 20 rfl).trans rfl
   have e21_36 : sg36 21 = B _ := (fr36 21 rfl).trans rfl
   have e22_36 := (fr36 22 rfl).trans (by conv => lhs; whnf)
   have e23_36 := (fr36 23 rfl).trans (by conv => lhs; whnf)
   have e24_36 := (fr36 24 rfl).trans (by conv => lhs; whnf)
   have e25_36 := (fr36 25 rfl).trans (by conv => lhs; whnf)
   have e26_36 : sg36 26 = B _ := (fr36 26 rfl).trans rfl
   refine CW.seq ?_
   refine SR ?_
   refine V (run_move e10_36) ?_
   refine V (run_ldRel underlying48 rfl rfl e3_36 (hH36.blk (i := 0) rfl)) ?_
   refine RL.callP rfl hH36 (c_clearanceref03_Points _  _) (run_call1 call73 rfl) ?_
   intro w38 hH39
   refine V (run_lss rfl rfl) ?_
   refine RL.nil ?_
   refine CW.condP rfl (fun h41 => ?_) (fun h41 => ?_)
   ·refine CW.skip ?_
    refine CW.seq ?_
    refine CW.block ?_
    refine SR ?_
    refine V (run_ldRel underlying48 rfl rfl e3_36 (hH39.blk (i := 0) rfl)) ?_
    refine V (run_move e10_36) ?_
    refine V (run_move e1_36) ?_
    refine RL.callP rfl hH39 (c_clearanceref03_Has _ _ _  _) (run_call3 call94 rfl rfl rfl) ?_
    intro w42 hH43
    refine V (mV (B _) rfl) ?_
    refine RL.split (dj := 37) rfl (fun h45 => ?_) (fun h45 => ?_)
    ·refine RL.gT rfl (bR (c := true) h45) ?_
     refine V (run_ldRel underlying48 rfl rfl e3_36 (hH43.blk (i := 0) rfl)) ?_
     refine RL.gT rfl (bR (c := true) h45) ?_
     refine V (run_move e10_36) ?_
     refine RL.gT rfl (bR (c := true) h45) ?_
     refine V (run_move e2_36) ?_
     refine RL.gT rfl (bR (c := true) h45) ?_
     refine RL.callP rfl hH43 (c_clearanceref03_Has _ _ _  _) (run_call3 call94 rfl rfl rfl) ?_
     intro w46 hH47
     refine V (run_pickT (bR (c := true) h45) (v := B _) rfl) ?_
     refine V (mV (B _) rfl) ?_
     refine RL.split (dj := 43) rfl (fun h49 => ?_) (fun h49 => ?_)
     ·refine RL.gT rfl (bR (c := true) h49) ?_
      refine V (run_ldRel underlying48 rfl rfl e3_36 (hH47.blk (i := 0) rfl)) ?_
      refine RL.gT rfl (bR (c := true) h49) ?_
      refine V (run_move e10_36) ?_
      refine RL.gT rfl (bR (c := true) h49) ?_
      refine V (run_move e8_36) ?_
      refine RL.gT rfl (bR (c := true) h49) ?_
      refine RL.callP rfl hH47 (c_clearanceref03_Has _ _ _  _) (run_call3 call94 rfl rfl rfl) ?_
      intro w50 hH51
      refine RL.gT rfl (bR (c := true) h49) ?_
      refine V (run_not rfl) ?_
      refine V (run_pickT (bR (c := true) h49) (v := B _) rfl) ?_
      refine RL.nil ?_
      refine CW.cond rfl (fun h54 => ?_) (fun h54 => ?_)
      ·refine CW.region ?_
       refine V (aV (B false) rfl) ?_
       refine RL.nil ?_
       refine CW.region ?_
       refine V (run_move e10_36) ?_
       refine V (run_add rfl rfl (by omega)) ?_
       refine V (aV (I _) rfl) ?_
       refine RL.nil ?_
       refine ⟨v + 1, ?_, fr36.u4.u4.u4.u4.u4.u4.u1, hH51, (congrArg B (by rw [goodM_next v0]; simp [*])), (congrArg I (by first | rfl | omega)), ?_, ?_⟩
       ·((try dsimp only); omega)
       ·omega
       ·omega
      ·refine CW.skip ?_
       refine CW.region ?_
       refine V (run_move e10_36) ?_
       refine V (run_add rfl rfl (by omega)) ?_
       refine V (aV (I _) rfl) ?_
       refine RL.nil ?_
       refine ⟨v + 1, ?_, fr36.u4.u4.u4.u4.u4.u4, hH51, (Eq.trans e9_36 (congrArg B (by rw [goodM_next v0]; simp [*]))), (congrArg I (by first | rfl | omega)), ?_, ?_⟩
       ·((try dsimp only); omega)
       ·omega
       ·omega
     ·refine RL.gF rfl rfl (bR (c := false) h49) rfl ?_
      refine RL.gF rfl rfl (bR (c := false) h49) rfl ?_
      refine RL.gF rfl rfl (bR (c := false) h49) rfl ?_
      refine RL.gF rfl rfl (bR (c := false) h49) rfl ?_
      refine RL.gF rfl rfl (bR (c := false) h49) rfl ?_
      refine V (run_pickF (bR (c := false) h49) (v := B false) rfl) ?_
      refine RL.nil ?_
      refine CW.condF rfl ?_
      refine CW.skip ?_
      refine CW.region ?_
      refine V (run_move e10_36) ?_
      refine V (run_add rfl rfl (by omega)) ?_
      refine V (aV (I _) rfl) ?_
      refine RL.nil ?_
      refine ⟨v + 1, ?_, fr36.u4.u4.u4.u4.u4.u4, hH47, (Eq.trans e9_36 (congrArg B (by rw [goodM_next v0]; simp [*]))), (congrArg I (by first | rfl | omega)), ?_, ?_⟩
      ·((try dsimp only); omega)
      ·omega
      ·omega
    ·refine RL.gF rfl rfl (bR (c := false) h45) rfl ?_
     refine RL.gF rfl rfl (bR (c := false) h45) rfl ?_
     refine RL.gF rfl rfl (bR (c := false) h45) rfl ?_
     refine RL.gF rfl rfl (bR (c := false) h45) rfl ?_
     refine V (run_pickF (bR (c := false) h45) (v := B false) rfl) ?_
     refine V (mV (B _) rfl) ?_
     refine RL.gF rfl rfl rfl rfl ?_
     refine RL.gF rfl rfl rfl rfl ?_
     refine RL.gF rfl rfl rfl rfl ?_
     refine RL.gF rfl rfl rfl rfl ?_
     refine RL.gF rfl rfl rfl rfl ?_
     refine V (run_pickF rfl (v := B false) rfl) ?_
     refine RL.nil ?_
     refine CW.condF rfl ?_
     refine CW.skip ?_
     refine CW.region ?_
     refine V (run_move e10_36) ?_
     refine V (run_add rfl rfl (by omega)) ?_
     refine V (aV (I _) rfl) ?_
     refine RL.nil ?_
     refine ⟨v + 1, ?_, fr36.u4.u4.u4.u4.u4.u4, hH43, (Eq.trans e9_36 (congrArg B (by rw [goodM_next v0]; simp [*]))), (congrArg I (by first | rfl | omega)), ?_, ?_⟩
     ·((try dsimp only); omega)
     ·omega
     ·omega
   ·refine CW.exit (id := 2) rfl ?_
    refine SR ?_
    refine V (run_move e9_36) ?_
    refine RL.nil ?_
    refine CW.cond rfl (fun h55 => ?_) (fun h55 => ?_)
    ·refine SR ?_
     refine V (run_move e8_36) ?_
     refine V (aV (I _) rfl) ?_
     refine V (aV (B true) rfl) ?_
     refine RL.nil ?_
     refine CW.ret ?_
     first | (refine outP2 Tryz.results111 (congrArg I ?_) (congrArg B ?_) hH39.below <;> rw [meet_yes u0 ‹_› (show v = pts r by omega) ‹_› hg]) | (refine outP2 Tryz.results111 (congrArg I ?_) (congrArg B ?_) hH39.below <;> rw [meet_no ‹_› hg])
    ·refine CW.skip ?_
     refine CW.region ?_
     refine V (run_move e8_36) ?_
     refine V (run_add rfl rfl (by omega)) ?_
     refine V (aV (I _) rfl) ?_
     refine RL.nil ?_
     refine ⟨u + 1, ?_, (((fr4.u4.u4.u4.u4).t fr36 rfl)).u4.u4, hH39, (congrArg I (by first | rfl | omega)), ?_, ?_, ?_⟩
     ·((try dsimp only); omega)
     ·omega
     ·omega
     ·exact fun x a b => if e : x = u then e ▸ (by rw [near_meet r i j u (show v = pts r by omega)]; assumption) else hg x a (by omega)
 ·refine CW.exit (id := 0) rfl ?_
  refine SR ?_
  refine V (aV (I 0) rfl) ?_
  refine V (aV (B false) rfl) ?_
  refine RL.nil ?_
  refine CW.ret ?_
  first | (refine outP2 Tryz.results111 (congrArg I ?_) (congrArg B ?_) hH6.below <;> rw [meet_yes u0 ‹_› (show v = pts r by omega) ‹_› hg]) | (refine outP2 Tryz.results111 (congrArg I ?_) (congrArg B ?_) hH6.below <;> rw [meet_no ‹_› hg])

theorem c_clearanceref06_Lattice (r : Rl) (w : World) : Calls Tryz.prog 75 #[.agg (relC r)] w (Pure (B (latB r)) w) := by
 have hp := pts_bd r
 refine enter Tryz.func75 rfl Tryz.ntmps75 rfl ?_
 have hH := Hp.start w
 refine SR ?_
 refine RL.new rfl hH (f := fun b => (.pointer (some ⟨b, 0, none⟩))) (run_box (v := .agg _) rfl) ?_
 intro b3 w1 hH2
 refine V (aV (B false) rfl) ?_
 refine RL.nil ?_
 refine CW.seq ?_
 refine SR ?_
 refine V (fA underlying48 0 rfl sizeOf3 rfl) ?_
 refine V (run_ld underlying3 rfl rfl (hH2.cell (i := 0) rfl (relC_N _))) ?_
 refine V (run_lss rfl rfl) ?_
 refine V (mV (B _) rfl) ?_
 refine RL.splitP (dj := 12) rfl (fun h5 => ?_) (fun h5 => ?_)
 ·refine RL.gF rfl rfl (bT h5) rfl ?_
  refine RL.gF rfl rfl (bT h5) rfl ?_
  refine RL.gF rfl rfl (bT h5) rfl ?_
  refine V (run_pickT (bT h5) (v := B true) rfl) ?_
  refine V (mV (B _) rfl) ?_
  refine RL.gF rfl rfl rfl rfl ?_
  refine RL.gF rfl rfl rfl rfl ?_
  refine RL.gF rfl rfl rfl rfl ?_
  refine V (run_pickT rfl (v := B true) rfl) ?_
  refine RL.nil ?_
  refine CW.condT rfl ?_
  refine SR ?_
  refine V (aV (B false) rfl) ?_
  refine RL.nil ?_
  refine CW.ret ?_
  refine outP1 Tryz.results75 (congrArg B ?_) hH2.below
  first | exact (lat_no1 (by omega)).symm | exact (lat_no2 (nt ‹_›)).symm | exact (lat_no3 ‹i < r.n› j0 ‹j < i› (by rw [bothB, nt ‹(!(joinV r i j).2) = true›]; rfl)).symm | exact (lat_no3 ‹i < r.n› j0 ‹j < i› (by rw [bothB, nt ‹(!(meetV r i j).2) = true›]; simp)).symm | exact (lat_yes hn ho ‹_› hg).symm
 ·refine RL.gT rfl (bF h5) ?_
  refine V (fA underlying48 0 rfl sizeOf3 rfl) ?_
  refine RL.gT rfl (bF h5) ?_
  refine V (run_ld underlying3 rfl rfl (hH2.cell (i := 0) rfl (relC_N _))) ?_
  refine RL.gT rfl (bF h5) ?_
  refine V (run_gtr rfl rfl) ?_
  refine V (run_pickF (bF h5) (v := B _) rfl) ?_
  refine V (mV (B _) rfl) ?_
  refine RL.splitP (dj := 17) rfl (fun h7 => ?_) (fun h7 => ?_)
  ·refine RL.gF rfl rfl (bT h7) rfl ?_
   refine RL.gF rfl rfl (bT h7) rfl ?_
   refine RL.gF rfl rfl (bT h7) rfl ?_
   refine V (run_pickT (bT h7) (v := B true) rfl) ?_
   refine RL.nil ?_
   refine CW.condT rfl ?_
   refine SR ?_
   refine V (aV (B false) rfl) ?_
   refine RL.nil ?_
   refine CW.ret ?_
   refine outP1 Tryz.results75 (congrArg B ?_) hH2.below
   first | exact (lat_no1 (by omega)).symm | exact (lat_no2 (nt ‹_›)).symm | exact (lat_no3 ‹i < r.n› j0 ‹j < i› (by rw [bothB, nt ‹(!(joinV r i j).2) = true›]; rfl)).symm | exact (lat_no3 ‹i < r.n› j0 ‹j < i› (by rw [bothB, nt ‹(!(meetV r i j).2) = true›]; simp)).symm | exact (lat_yes hn ho ‹_› hg).symm
  ·refine RL.gT rfl (bF h7) ?_
   refine V (run_ldRel underlying48 rfl rfl rfl (hH2.blk (i := 0) rfl)) ?_
   refine RL.gT rfl (bF h7) ?_
   refine RL.callP rfl hH2 (c_clearanceref03_Order _  _) (run_call1 call109 rfl) ?_
   intro w8 hH9
   refine RL.gT rfl (bF h7) ?_
   refine V (run_not rfl) ?_
   refine V (run_pickF (bF h7) (v := B _) rfl) ?_
   refine RL.nil ?_
   refine CW.cond rfl (fun h12 => ?_) (fun h12 => ?_)
   ·refine SR ?_
    refine V (aV (B false) rfl) ?_
    refine RL.nil ?_
    refine CW.ret ?_
    refine outP1 Tryz.results75 (congrArg B ?_) hH9.below
    first | exact (lat_no1 (by omega)).symm | exact (lat_no2 (nt ‹_›)).symm | exact (lat_no3 ‹i < r.n› j0 ‹j < i› (by rw [bothB, nt ‹(!(joinV r i j).2) = true›]; rfl)).symm | exact (lat_no3 ‹i < r.n› j0 ‹j < i› (by rw [bothB, nt ‹(!(meetV r i j).2) = true›]; simp)).symm | exact (lat_yes hn ho ‹_› hg).symm
   ·refine CW.skip ?_
    refine CW.seq ?_
    refine SR ?_
    refine V (aV (I 0) rfl) ?_
    refine RL.nil ?_
    refine CW.block ?_
    have hn : 1 ≤ r.n ∧ r.n ≤ 64 := by omega
    have ho : orderB r = true := nf ‹_›
    refine CW.loop (G := (Int)) (fun (i : Int) s' w' => (Fr [2, 3, 4, 5, 6, 7, 8, 22, 23, 24, 25, 26, 27, 28, 29, 30, 31, 32, 33, 34, 35, 36, 37, 38, 39, 40, 41, 42, 43, 44, 45, 46, 47, 48, 49, 50, 51, 52] _ s') ∧ (Hp w w' _) ∧ (s' 3 = I i) ∧ (0 ≤ i) ∧ (i ≤ r.n) ∧ (∀ a b : Int, 0 ≤ b → b < a → a < i → bothB r a b = true)) (fun (i : Int) => (r.n - i).toNat) (0) ⟨Fr.refl _ _, hH9, rfl, (by omega), (by omega), fun a b x y z => absurd z (by omega)⟩ ?_
    rintro i sg13 w13 ⟨fr13, hH13, e3_13, i0, i1, hg⟩
    have e1_13 : sg13 1 = Pn _ _ := (fr13 1 rfl).trans rfl
    refine CW.seq ?_
    refine SR ?_
    refine V (run_move e3_13) ?_
    refine V (fA underlying48 0 rfl sizeOf3 e1_13) ?_
    refine V (run_ld underlying3 rfl rfl (hH13.cell (i := 0) rfl (relC_N _))) ?_
    refine V (run_lss rfl rfl) ?_
    refine RL.nil ?_
    refine CW.condP rfl (fun h15 => ?_) (fun h15 => ?_)
    ·refine CW.skip ?_
     refine CW.seq ?_
     refine CW.block ?_
     refine SR ?_
     refine V (aV (I 0) rfl) ?_
     refine RL.nil ?_
     refine CW.block ?_
     refine CW.loop (G := (Int)) (fun (j : Int) s' w' => (Fr [2, 4, 5, 6, 7, 8, 28, 29, 30, 31, 32, 33, 34, 35, 36, 37, 38, 39, 40, 41, 42, 43, 44, 45, 46, 47, 48, 49, 50, 51, 52] _ s') ∧ (Hp w w' _) ∧ (s' 4 = I j) ∧ (0 ≤ j) ∧ (j ≤ i) ∧ (∀ b : Int, 0 ≤ b → b < j → bothB r i b = true)) (fun (j : Int) => (i - j).toNat) (0) ⟨Fr.refl _ _, hH13, rfl, (by omega), (by omega), fun b x y => absurd y (by omega)⟩ ?_
     rintro j sg16 w16 ⟨fr16, hH16, e4_16, j0, j1, hh⟩
     have e1_16 := (fr16 1 rfl).trans e1_13
     have e3_16 := (fr16 3 rfl).trans e3_13
     have e22_16 : sg16 22 = I _ := (fr16 22 rfl).trans rfl
     have e23_16 : sg16 23 = Pn _ _ := (fr16 23 rfl).trans rfl
     have e24_16 : sg16 24 = I _ := (fr16 24 rfl).trans rfl
     have e25_16 : sg16 25 = B _ := (fr16 25 rfl).trans rfl
     refine CW.seq ?_
     refine SR ?_
     refine V (run_move e4_16) ?_
     refine V (run_move e3_16) ?_
     refine V (run_lss rfl rfl) ?_
     refine RL.nil ?_
     refine CW.condP rfl (fun h18 => ?_) (fun h18 => ?_)
     ·refine CW.skip ?_
      refine CW.seq ?_
      refine CW.block ?_
      refine SR ?_
      refine V (run_ldRel underlying48 rfl rfl e1_16 (hH16.blk (i := 0) rfl)) ?_
      refine V (run_move e3_16) ?_
      refine V (run_move e4_16) ?_
      refine RL.callP rfl hH16 (c_clearanceref06_Join _ _ _  _) (run_call3 call110 rfl rfl rfl) ?_
      intro w19 hH20
      refine V (run_move (by conv => lhs; whnf)) ?_
      refine V (run_extract rfl (v := I _) rfl) ?_
      refine V (run_extract rfl (v := B _) rfl) ?_
      refine V (aV (I _) rfl) ?_
      refine V (aV (B _) rfl) ?_
      refine RL.nil ?_
      refine SR ?_
      refine V (run_ldRel underlying48 rfl rfl e1_16 (hH20.blk (i := 0) rfl)) ?_
      refine V (run_move e3_16) ?_
      refine V (run_move e4_16) ?_
      refine RL.callP rfl hH20 (c_clearanceref06_Meet _ _ _  _) (run_call3 call111 rfl rfl rfl) ?_
      intro w22 hH23
      refine V (run_move (by conv => lhs; whnf)) ?_
      refine V (run_extract rfl (v := I _) rfl) ?_
      refine V (run_extract rfl (v := B _) rfl) ?_
      refine V (aV (I _) rfl) ?_
      refine V (aV (B _) rfl) ?_
      refine RL.nil ?_
      refine SR ?_
      refine V (mV (B _) rfl) ?_
      refine V (run_not rfl) ?_
      refine V (mV (B _) rfl) ?_
      refine RL.split (dj := 49) rfl (fun h26 => ?_) (fun h26 => ?_)
      ·refine RL.gF rfl rfl (bR (c := true) h26) rfl ?_
       refine RL.gF rfl rfl (bR (c := true) h26) rfl ?_
       refine V (run_pickT (bR (c := true) h26) (v := B true) rfl) ?_
       refine RL.nil ?_
       refine CW.condT rfl ?_
       refine SR ?_
       refine V (aV (B false) rfl) ?_
       refine RL.nil ?_
       refine CW.ret ?_
       refine outP1 Tryz.results75 (congrArg B ?_) hH23.below
       first | exact (lat_no1 (by omega)).symm | exact (lat_no2 (nt ‹_›)).symm | exact (lat_no3 ‹i < r.n› j0 ‹j < i› (by rw [bothB, nt ‹(!(joinV r i j).2) = true›]; rfl)).symm | exact (lat_no3 ‹i < r.n› j0 ‹j < i› (by rw [bothB, nt ‹(!(meetV r i j).2) = true›]; simp)).symm | exact (lat_yes hn ho ‹_› hg).symm
      ·refine RL.gT rfl (bR (c := false) h26) ?_
       refine V (mV (B _) rfl) ?_
       refine RL.gT rfl (bR (c := false) h26) ?_
       refine V (run_not rfl) ?_
       refine V (run_pickF (bR (c := false) h26) (v := B _) rfl) ?_
       refine RL.nil ?_
       refine CW.cond rfl (fun h28 => ?_) (fun h28 => ?_)
       ·refine SR ?_
        refine V (aV (B false) rfl) ?_
        refine RL.nil ?_
        refine CW.ret ?_
        refine outP1 Tryz.results75 (congrArg B ?_) hH23.below
        first | exact (lat_no1 (by omega)).symm | exact (lat_no2 (nt ‹_›)).symm | exact (lat_no3 ‹i < r.n› j0 ‹j < i› (by rw [bothB, nt ‹(!(joinV r i j).2) = true›]; rfl)).symm | exact (lat_no3 ‹i < r.n› j0 ‹j < i› (by rw [bothB, nt ‹(!(meetV r i j).2) = true›]; simp)).symm | exact (lat_yes hn ho ‹_› hg).symm
       ·refine CW.skip ?_
        refine CW.region ?_
        refine V (run_move e4_16) ?_
        refine V (run_add rfl rfl (by omega)) ?_
        refine V (aV (I _) rfl) ?_
        refine RL.nil ?_
        refine ⟨j + 1, ?_, fr16.u4.u4.u4.u4.u4.u4.u4.u1.u1, hH23, (congrArg I (by first | rfl | omega)), ?_, ?_, ?_⟩
        ·((try dsimp only); omega)
        ·omega
        ·omega
        ·exact fun b x y => if e : b = j then e ▸ (by rw [bothB, Bool.and_eq_true]; exact ⟨nf ‹(!(joinV r i j).2) = false›, nf ‹(!(meetV r i j).2) = false›⟩) else hh b x (by omega)
     ·refine CW.exit (id := 2) rfl ?_
      refine CW.region ?_
      refine V (run_move e3_16) ?_
      refine V (run_add rfl rfl (by omega)) ?_
      refine V (aV (I _) rfl) ?_
      refine RL.nil ?_
      refine ⟨i + 1, ?_, (((fr13.u4.u1).t fr16 rfl)).u4.u1.u1, hH16, (congrArg I (by first | rfl | omega)), ?_, ?_, ?_⟩
      ·((try dsimp only); omega)
      ·omega
      ·omega
      ·exact fun a b x y z => if e : a = i then e ▸ hh b x (by omega) else hg a b x y (by omega)
    ·refine CW.exit (id := 0) rfl ?_
     refine SR ?_
     refine V (aV (B true) rfl) ?_
     refine RL.nil ?_
     refine CW.ret ?_
     refine outP1 Tryz.results75 (congrArg B ?_) hH13.below
     first | exact (lat_no1 (by omega)).symm | exact (lat_no2 (nt ‹_›)).symm | exact (lat_no3 ‹i < r.n› j0 ‹j < i› (by rw [bothB, nt ‹(!(joinV r i j).2) = true›]; rfl)).symm | exact (lat_no3 ‹i < r.n› j0 ‹j < i› (by rw [bothB, nt ‹(!(meetV r i j).2) = true›]; simp)).symm | exact (lat_yes hn ho ‹_› hg).symm

theorem c_clearanceref06_Word (r : Rl) (i : Int) (w : World) : Calls Tryz.prog 50 #[.agg (relC r), I i] w (Pure (U (belowR r i)) w) := by
 have hp := pts_bd r
 refine enter Tryz.func50 rfl Tryz.ntmps50 rfl ?_
 have hH := Hp.start w
 refine SR ?_
 refine RL.new rfl hH (f := fun b => (.pointer (some ⟨b, 0, none⟩))) (run_box (v := .agg _) rfl) ?_
 intro b3 w1 hH2
 refine V (aV (U 0#64) rfl) ?_
 refine RL.nil ?_
 refine SR ?_
 refine V (aV (.slice none 0 0) rfl) ?_
 have hH4 := hH2.nilRow 3 1
 refine RL.nil ?_
 refine CW.seq ?_
 refine SR ?_
 refine V (aV (I 0) rfl) ?_
 refine RL.nil ?_
 refine CW.block ?_
 refine CW.loop (G := (Int) × (List Int) × (Value)) (fun (⟨k, l, v5⟩ : (Int) × (List Int) × (Value)) s' w' => (Fr [5, 6, 7, 8, 9, 10, 11, 12, 13, 14, 15, 16, 17, 18, 19, 20] _ s') ∧ (Hp w w' (.row v5 3 1 (l.length) (l.map I) :: _)) ∧ (s' 5 = v5) ∧ (s' 6 = I k) ∧ (0 ≤ k) ∧ (k ≤ pts r) ∧ (l = downTo' r i k)) (fun (⟨k, l, v5⟩ : (Int) × (List Int) × (Value)) => (pts r - k).toNat) ((0, [], (.slice none 0 0 : Value))) ⟨Fr.refl _ _, hH4, rfl, rfl, (by omega), (by omega), rfl⟩ ?_
 rintro ⟨k, l, v5⟩ sg5 w5 ⟨fr5, hH5, e5_5, e6_5, k0, k1, hl⟩
 have e1_5 : sg5 1 = I _ := (fr5 1 rfl).trans rfl
 have e2_5 : sg5 2 = Pn _ _ := (fr5 2 rfl).trans rfl
 have e4_5 : sg5 4 = U _ := (fr5 4 rfl).trans rfl
 refine CW.seq ?_
 refine SR ?_
 refine V (run_move e6_5) ?_
 refine V (run_ldRel underlying48 rfl rfl e2_5 (hH5.blk (i := 1) rfl)) ?_
 refine RL.callP rfl hH5 (c_clearanceref03_Points _  _) (run_call1 call73 rfl) ?_
 intro w6 hH7
 refine V (run_lss rfl rfl) ?_
 refine RL.nil ?_
 refine CW.condP rfl (fun h9 => ?_) (fun h9 => ?_)
 ·refine CW.skip ?_
  refine CW.seq ?_
  refine CW.block ?_
  refine SR ?_
  refine V (run_ldRel underlying48 rfl rfl e2_5 (hH7.blk (i := 1) rfl)) ?_
  refine V (run_move e6_5) ?_
  refine V (run_move e1_5) ?_
  refine RL.callP rfl hH7 (c_clearanceref03_Has _ _ _  _) (run_call3 call94 rfl rfl rfl) ?_
  intro w10 hH11
  refine RL.nil ?_
  refine CW.cond rfl (fun h13 => ?_) (fun h13 => ?_)
  ·refine CW.region ?_
   refine V (run_move e5_5) ?_
   refine V (run_move e6_5) ?_
   refine RL.new rfl hH11 (f := fun b => (.slice (some ⟨b, 0, none⟩) 1 1)) (run_mkL underlying82 rfl rfl (sz := 1) (vs := [I _]) rfl rfl (by decide) (by decide) rfl rfl) ?_
   intro b16 w14 hH15
   (try simp only [List.flatMap_cons, List.flatMap_nil, clI, clB, clS, clP, clL, clA, List.append_nil, List.cons_append, List.nil_append] at hH15)
   refine RL.app rfl hH15 (i := 1) rfl (hH15.slBlk (i := 0) (n := 1) (sz := 1) rfl rfl (by decide)) rfl rfl underlying82 rfl rfl (size := 1) (bytes := 8) rfl rfl rfl (by decide) (by simp [Value.oneCell']) (by have := @downs_len r i k; rw [← hl] at this; omega) (by have := @downs_len r i k; rw [← hl] at this; simp only [maxLen]; omega) ?_
   intro v17 w18 hH19
   simp only [z0, z1] at hH19
   refine V (run_assign (by conv => lhs; whnf)) ?_
   refine RL.nil ?_
   refine CW.region ?_
   refine V (run_move e6_5) ?_
   refine V (run_add rfl rfl (by omega)) ?_
   refine V (aV (I _) rfl) ?_
   refine RL.nil ?_
   refine ⟨(k + 1, l ++ [k], v17), ?_, fr5.u4.u4.u4.u4, (Hp.conv (hH19.sub (sQ sR)) (by first | rfl | simp)), rfl, (congrArg I (by first | rfl | omega)), ?_, ?_, ?_⟩
   ·((try dsimp only); omega)
   ·omega
   ·omega
   ·first | (rw [hl]; exact downs_yes k0 ‹_›) | (rw [hl]; exact downs_no k0 ‹_›)
  ·refine CW.skip ?_
   refine CW.region ?_
   refine V (run_move e6_5) ?_
   refine V (run_add rfl rfl (by omega)) ?_
   refine V (aV (I _) rfl) ?_
   refine RL.nil ?_
   refine ⟨(k + 1, l, v5), ?_, fr5.u4.u4.u1.u1.u1, (Hp.conv hH11 (by first | rfl | simp)), e5_5, (congrArg I (by first | rfl | omega)), ?_, ?_, ?_⟩
   ·((try dsimp only); omega)
   ·omega
   ·omega
   ·first | (rw [hl]; exact downs_yes k0 ‹_›) | (rw [hl]; exact downs_no k0 ‹_›)
 ·refine CW.exit (id := 0) rfl ?_
  refine SR ?_
  refine V (run_move e5_5) ?_
  refine RL.callP rfl hH7 (c_clearanceref01_Of _ _  _ (hH7.sl (i := 0) rfl)) (run_call1 call92 rfl) ?_
  intro w20 hH21
  refine V (aV (U _) rfl) ?_
  refine RL.nil ?_
  refine CW.ret ?_
  refine outP1 Tryz.results50 (congrArg U ?_) hH21.below
  (rw [hl]; exact downs_all (by omega))

theorem c_clearanceref06_Point (r : Rl) (s : BitVec 64) (w : World) : Calls Tryz.prog 66 #[.agg (relC r), U s] w (Pure (.tuple #[I (pointV r s).1, B (pointV r s).2]) w) := by
 have hp := pts_bd r
 refine enter Tryz.func66 rfl Tryz.ntmps66 rfl ?_
 have hH := Hp.start w
 refine SR ?_
 refine RL.new rfl hH (f := fun b => (.pointer (some ⟨b, 0, none⟩))) (run_box (v := .agg _) rfl) ?_
 intro b3 w1 hH2
 refine V (aV (I 0) rfl) ?_
 refine V (aV (B false) rfl) ?_
 refine RL.nil ?_
 refine CW.seq ?_
 refine SR ?_
 refine V (aV (I 0) rfl) ?_
 refine RL.nil ?_
 refine CW.block ?_
 refine CW.loop (G := (Int)) (fun (k : Int) s' w' => (Fr [4, 5, 6, 7, 8, 9, 10, 11, 12, 13, 14, 15, 16, 17, 18] _ s') ∧ (Hp w w' _) ∧ (s' 6 = I k) ∧ (0 ≤ k) ∧ (k ≤ pts r) ∧ (∀ j : Int, 0 ≤ j → j < k → belowR r j ≠ s)) (fun (k : Int) => (pts r - k).toNat) (0) ⟨Fr.refl _ _, hH2, rfl, (by omega), (by omega), fun j x y => absurd y (by omega)⟩ ?_
 rintro k sg4 w4 ⟨fr4, hH4, e6_4, h0, hk, hg⟩
 have e1_4 : sg4 1 = U _ := (fr4 1 rfl).trans rfl
 have e2_4 : sg4 2 = Pn _ _ := (fr4 2 rfl).trans rfl
 refine CW.seq ?_
 refine SR ?_
 refine V (run_move e6_4) ?_
 refine V (run_ldRel underlying48 rfl rfl e2_4 (hH4.blk (i := 0) rfl)) ?_
 refine RL.callP rfl hH4 (c_clearanceref03_Points _  _) (run_call1 call73 rfl) ?_
 intro w5 hH6
 refine V (run_lss rfl rfl) ?_
 refine RL.nil ?_
 refine CW.condP rfl (fun h8 => ?_) (fun h8 => ?_)
 ·refine CW.skip ?_
  refine CW.seq ?_
  refine CW.block ?_
  refine SR ?_
  refine V (run_ldRel underlying48 rfl rfl e2_4 (hH6.blk (i := 0) rfl)) ?_
  refine V (run_move e6_4) ?_
  refine RL.callP rfl hH6 (c_clearanceref06_Word _ _  _) (run_call2 call50 rfl rfl) ?_
  intro w9 hH10
  refine V (run_move e1_4) ?_
  refine V (run_eqlU rfl rfl) ?_
  refine RL.nil ?_
  refine CW.condP rfl (fun h12 => ?_) (fun h12 => ?_)
  ·refine SR ?_
   refine V (run_move e6_4) ?_
   refine V (aV (I _) rfl) ?_
   refine V (aV (B true) rfl) ?_
   refine RL.nil ?_
   refine CW.ret ?_
   refine outP2 Tryz.results66 (congrArg I ?_) (congrArg B ?_) hH10.below <;> rw [point_yes h0 ‹_› ‹_› hg]
  ·refine CW.skip ?_
   refine CW.region ?_
   refine V (run_move e6_4) ?_
   refine V (run_add rfl rfl (by omega)) ?_
   refine V (aV (I _) rfl) ?_
   refine RL.nil ?_
   refine ⟨k + 1, ?_, fr4.u4.u4.u4, hH10, (congrArg I (by first | rfl | omega)), ?_, ?_, ?_⟩
   ·((try dsimp only); omega)
   ·omega
   ·omega
   ·exact fun j x y => if e : j = k then e ▸ ‹¬ belowR r k = s› else hg j x (by omega)
 ·refine CW.exit (id := 0) rfl ?_
  refine SR ?_
  refine V (aV (I 0) rfl) ?_
  refine V (aV (B false) rfl) ?_
  refine RL.nil ?_
  refine CW.ret ?_
  refine outP2 Tryz.results66 (congrArg I ?_) (congrArg B ?_) hH6.below <;> rw [point_no ‹_› hg]

theorem c_grid_Right (r : Rl) (w : World) : Calls Tryz.prog 84 #[.agg (relC r)] w (Pure (B (rightG r)) w) := by
 refine enter Tryz.func84 rfl Tryz.ntmps84 rfl ?_
 have hH := Hp.start w
 refine SR ?_
 refine RL.new rfl hH (f := fun b => (.pointer (some ⟨b, 0, none⟩))) (run_box (v := .agg _) rfl) ?_
 intro b3 w1 hH2
 refine V (aV (B false) rfl) ?_
 refine RL.nil ?_
 refine SR ?_
 refine V (fA underlying48 0 rfl sizeOf3 rfl) ?_
 refine V (run_ld underlying3 rfl rfl (hH2.cell (i := 0) rfl (relC_N _))) ?_
 refine V (run_geq rfl rfl) ?_
 refine V (mV (B _) rfl) ?_
 refine RL.splitP (dj := 6) rfl (fun h5 => ?_) (fun h5 => ?_)
 ·refine RL.gT rfl (bT h5) ?_
  refine V (fA underlying48 0 rfl sizeOf3 rfl) ?_
  refine RL.gT rfl (bT h5) ?_
  refine V (run_ld underlying3 rfl rfl (hH2.cell (i := 0) rfl (relC_N _))) ?_
  refine RL.gT rfl (bT h5) ?_
  refine V (run_leq rfl rfl) ?_
  refine V (run_pickT (bT h5) (v := B _) rfl) ?_
  refine V (mV (B _) rfl) ?_
  refine RL.splitP (dj := 11) rfl (fun h7 => ?_) (fun h7 => ?_)
  ·refine RL.gT rfl (bT h7) ?_
   refine V (run_ldRel underlying48 rfl rfl rfl (hH2.blk (i := 0) rfl)) ?_
   refine RL.gT rfl (bT h7) ?_
   refine RL.callP rfl hH2 (c_relate_Closed _  _) (run_call1 call115 rfl) ?_
   intro w8 hH9
   refine V (run_pickT (bT h7) (v := B _) rfl) ?_
   refine V (aV (B _) rfl) ?_
   refine RL.nil ?_
   refine CW.ret ?_
   refine outP1 Tryz.results84 (congrArg B ?_) hH9.below
   first | rw [rightG, decide_eq_false (show ¬ (1 ≤ r.n ∧ r.n ≤ 8) by omega), Bool.false_and] | rw [rightG, decide_eq_true (show 1 ≤ r.n ∧ r.n ≤ 8 by omega), Bool.true_and]
  ·refine RL.gF rfl rfl (bF h7) rfl ?_
   refine RL.gF rfl rfl (bF h7) rfl ?_
   refine V (run_pickF (bF h7) (v := B false) rfl) ?_
   refine V (aV (B _) rfl) ?_
   refine RL.nil ?_
   refine CW.ret ?_
   refine outP1 Tryz.results84 (congrArg B ?_) hH2.below
   first | rw [rightG, decide_eq_false (show ¬ (1 ≤ r.n ∧ r.n ≤ 8) by omega), Bool.false_and] | rw [rightG, decide_eq_true (show 1 ≤ r.n ∧ r.n ≤ 8 by omega), Bool.true_and]
 ·refine RL.gF rfl rfl (bF h5) rfl ?_
  refine RL.gF rfl rfl (bF h5) rfl ?_
  refine RL.gF rfl rfl (bF h5) rfl ?_
  refine V (run_pickF (bF h5) (v := B false) rfl) ?_
  refine V (mV (B _) rfl) ?_
  refine RL.gF rfl rfl rfl rfl ?_
  refine RL.gF rfl rfl rfl rfl ?_
  refine V (run_pickF rfl (v := B false) rfl) ?_
  refine V (aV (B _) rfl) ?_
  refine RL.nil ?_
  refine CW.ret ?_
  refine outP1 Tryz.results84 (congrArg B ?_) hH2.below
  first | rw [rightG, decide_eq_false (show ¬ (1 ≤ r.n ∧ r.n ≤ 8) by omega), Bool.false_and] | rw [rightG, decide_eq_true (show 1 ≤ r.n ∧ r.n ≤ 8 by omega), Bool.true_and]

theorem c_grid_row (r : Rl) (s : BitVec 64) (o : Int) (ho : 0 ≤ o ∧ o < 8) (w : World) : Calls Tryz.prog 98 #[.agg (relC r), U s, I o] w (Pure (U (growG r s o)) w) := by
 refine enter Tryz.func98 rfl Tryz.ntmps98 rfl ?_
 have hH := Hp.start w
 refine SR ?_
 refine RL.new rfl hH (f := fun b => (.pointer (some ⟨b, 0, none⟩))) (run_box (v := .agg _) rfl) ?_
 intro b3 w1 hH2
 refine V (aV (U 0#64) rfl) ?_
 refine RL.nil ?_
 refine SR ?_
 refine V (mV (U _) rfl) ?_
 refine V (mV (I _) rfl) ?_
 refine V (run_mul rfl rfl (by omega)) ?_
 refine V (run_convIU underlying3 underlying112 rfl) ?_
 refine V (run_shrU rfl rfl) ?_
 refine V (fA underlying48 0 rfl sizeOf3 rfl) ?_
 refine V (run_ld underlying3 rfl rfl (hH2.cell (i := 0) rfl (relC_N _))) ?_
 refine RL.callP rfl hH2 (c_mask_Below _  _) (run_call1 call80 rfl) ?_
 intro w4 hH5
 refine V (run_andU rfl rfl) ?_
 refine V (aV (U _) rfl) ?_
 refine RL.nil ?_
 refine CW.ret ?_
 refine outP1 Tryz.results98 (congrArg U ?_) hH5.below
 rfl

theorem c_grid_rows (r : Rl) (f : FuncId) (cs : List Value) (ff : Int → BitVec 64) (hn : 1 ≤ r.n ∧ r.n ≤ 8) (w : World) (hf : ∀ args w, (callFunc f args).run Tryz.prog w = .ok (.enter f args) w) (go : ∀ i w', Below w.heap.size w w' → 0 ≤ i → i < r.n → Calls Tryz.prog f (I i :: cs).toArray w' (Pure (U (ff i)) w')) : Calls Tryz.prog 125 #[.agg (relC r), .func (.func f) #[] cs.toArray] w (Pure (U (rowsG ff r.n)) w) := by
 refine enter Tryz.func125 rfl Tryz.ntmps125 rfl ?_
 have hH := Hp.start w
 refine SR ?_
 refine RL.new rfl hH (f := fun b => (.pointer (some ⟨b, 0, none⟩))) (run_box (v := .agg _) rfl) ?_
 intro b3 w1 hH2
 refine V (aV (U 0#64) rfl) ?_
 refine RL.nil ?_
 refine SR ?_
 refine V (aV (U 0#64) rfl) ?_
 refine RL.nil ?_
 refine CW.seq ?_
 refine SR ?_
 refine V (fA underlying48 0 rfl sizeOf3 rfl) ?_
 refine V (run_ld underlying3 rfl rfl (hH2.cell (i := 0) rfl (relC_N _))) ?_
 refine V (mV (I 0) rfl) ?_
 refine RL.nil ?_
 refine CW.block ?_
 refine CW.loop (G := (Int)) (fun (k : Int) s' w' => (Fr [5, 6, 9, 10, 11, 12, 13, 14, 15, 16, 17, 18, 19, 20, 21] _ s') ∧ (Hp w w' _) ∧ (s' 5 = U (rowsG ff k)) ∧ (s' 9 = I k) ∧ (0 ≤ k) ∧ (k ≤ r.n)) (fun (k : Int) => (r.n - k).toNat) (0) ⟨Fr.refl _ _, hH2, rfl, rfl, (by omega), (by omega)⟩ ?_
 rintro k sg4 w4 ⟨fr4, hH4, e5_4, e9_4, h0, hk⟩
 have e1_4 : sg4 1 = .func _ _ _ := (fr4 1 rfl).trans rfl
 have e4_4 : sg4 4 = U _ := (fr4 4 rfl).trans rfl
 have e8_4 : sg4 8 = I _ := (fr4 8 rfl).trans rfl
 refine SR ?_
 refine V (run_lss e9_4 e8_4) ?_
 refine RL.nil ?_
 refine CW.seq ?_
 refine CW.condP rfl (fun h6 => ?_) (fun h6 => ?_)
 ·refine CW.skip ?_
  refine CW.seq ?_
  refine CW.block ?_
  refine SR ?_
  refine V (run_move e9_4) ?_
  refine V (aV (I _) rfl) ?_
  refine RL.nil ?_
  refine CW.region ?_
  refine V (run_move e5_4) ?_
  refine V (run_move e1_4) ?_
  refine V (mV (I _) rfl) ?_
  refine RL.callP rfl hH4 (go _ _ hH4.below (by omega) (by omega)) (run_callC1 hf (cs := cs) rfl rfl) ?_
  intro w7 hH8
  refine V (mV (I _) rfl) ?_
  refine V (run_mul rfl rfl (by omega)) ?_
  refine V (run_convIU underlying3 underlying112 rfl) ?_
  refine V (run_shlU rfl rfl) ?_
  refine V (run_orU rfl rfl) ?_
  refine V (aV (U _) rfl) ?_
  refine RL.nil ?_
  refine CW.region ?_
  refine V (run_add e9_4 rfl (by omega)) ?_
  refine V (mV (I _) rfl) ?_
  refine RL.nil ?_
  refine ⟨k + 1, ?_, fr4.u4.u4.u4.u1.u1.u1, hH8, (congrArg U (rows_next h0)), (congrArg I (by first | rfl | omega)), ?_, ?_⟩
  ·((try dsimp only); omega)
  ·omega
  ·omega
 ·refine CW.exit (id := 0) rfl ?_
  refine SR ?_
  refine V (run_move e5_4) ?_
  refine V (aV (U _) rfl) ?_
  refine RL.nil ?_
  refine CW.ret ?_
  refine outP1 Tryz.results125 (congrArg U ?_) hH4.below
  (rw [show k = r.n by omega])

theorem c_grid_Close_1 (b c : Nat) (r : Rl) (s : BitVec 64) (o : Int) (hr : rightG r = true) (w : World) (hb : w.heap[b]? = some (.cells (relC r) 48 (0, 0))) (hc : w.heap[c]? = some (.cells #[U s] 32 (0, 0))) (hT : Tab w) : Calls Tryz.prog 133 #[I o, .pointer (some ⟨b, 0, none⟩), .pointer (some ⟨c, 0, none⟩)] w (Pure (U (closeF r s o)) w) := by
 have hl := lst_len (upR r (ofl [o]))
 refine enter Tryz.func133 rfl Tryz.ntmps133 rfl ?_
 have hH := Hp.start w
 refine SR ?_
 refine V (aV (U 0#64) rfl) ?_
 refine RL.nil ?_
 refine SR ?_
 refine V (aV (U 0#64) rfl) ?_
 refine RL.nil ?_
 refine CW.seq ?_
 refine CW.seq ?_
 refine CW.regionD (by kernel_rfl) hH ?_
 intro w1 hH2
 refine AT 0 rfl (hH2.sub sR) (fun w hS => run_ldRel underlying48 rfl rfl rfl (hS.ext hb)) ?_
 refine AT 1 rfl (hH2.sub sR) (fun w hS => mV (I _) rfl) ?_
 refine AT 7 rfl (hH2.sub sR) (fun w hS => mV (I 0) rfl) ?_
 refine A1 2 ?_
 refine AO.new rfl gnone rfl hH2 sR (f := fun b => .slice (some ⟨b, 0, none⟩) 1 1) (run_mkL underlying82 rfl rfl (sz := 1) (vs := [I _]) rfl rfl (by decide) (by decide) rfl rfl) ?_
 intro b5 w3 hH4
 (try simp only [List.flatMap_cons, List.flatMap_nil, clI, clB, clS, clP, clL, clA, List.append_nil, List.cons_append, List.nil_append] at hH4)
 have hH6 := hH4.blkRow 1 1 rfl (by decide)
 refine A1 3 ?_
 refine AO.callP rfl gnone rfl hH6 (sQ sR) (c_mask_Of _ [o] _ (hH6.sl (i := 0) rfl)) (run_call1 call134 rfl) ?_
 intro w7 hH8
 refine A1 4 ?_
 refine AO.callP rfl gnone rfl hH8 (sQ sR) (c_relate_Up _ _  _ (hT.hp hH8)) (run_call2 call124 rfl rfl) ?_
 intro w9 hH10
 refine A1 5 ?_
 refine AO.callR rfl gnone rfl hH10 (sQ sR) (c_mask_List _  _ (hT.hp hH10)) (run_call1 call55 rfl) ?_
 intro v13 w11 hH12
 refine A1 6 ?_
 refine AO.read rfl gnone rfl hH12 (sQ (sQ sR)) (run_lenSl (hH12.sl (i := 0) rfl) rfl underlying82 rfl) ?_
 refine AD ?_
 refine CW.block ?_
 refine CW.loop (G := (Int)) (fun (k : Int) s' w' => (Fr [5, 7, 15, 16, 17, 18, 19, 20, 21, 22, 23, 24, 25, 26, 27] _ s') ∧ (Hp w w' _) ∧ (s' 5 = U (orAll (fun p => downR r (growG r s p)) ((lst (upR r (ofl [o]))).take k.toNat))) ∧ (s' 15 = I k) ∧ (0 ≤ k) ∧ (k ≤ (lst (upR r (ofl [o]))).length)) (fun (k : Int) => ((lst (upR r (ofl [o]))).length - k).toNat) (0) ⟨Fr.refl _ _, hH12, (congrArg U (by simp [orAll])), rfl, (by omega), (by omega)⟩ ?_
 rintro k sg16 w16 ⟨fr16, hH16, e5_16, e15_16, h0, hk⟩
 have e1_16 := (fr16 1 rfl).trans (by conv => lhs; whnf)
 have e2_16 := (fr16 2 rfl).trans (by conv => lhs; whnf)
 have e4_16 : sg16 4 = U _ := (fr16 4 rfl).trans rfl
 have e13_16 := (fr16 13 rfl).trans (by conv => lhs; whnf)
 have e14_16 : sg16 14 = I _ := (fr16 14 rfl).trans rfl
 refine SR ?_
 refine V (run_lss e15_16 e14_16) ?_
 refine RL.nil ?_
 refine CW.seq ?_
 refine CW.condP rfl (fun h18 => ?_) (fun h18 => ?_)
 ·refine CW.skip ?_
  refine CW.seq ?_
  refine CW.block ?_
  refine SR ?_
  refine V (run_indexAddrS (hH16.sl (i := 0) rfl) underlying82 sizeOf3 e13_16 e15_16 (by omega)) ?_
  refine V (run_ld underlying3 rfl rfl ((hH16.sl (i := 0) rfl).cell _ _ (map_at (by omega)))) ?_
  refine V (aV (I _) rfl) ?_
  refine RL.nil ?_
  refine CW.regionD (by kernel_rfl) hH16 ?_
  intro w19 hH20
  refine AT 0 rfl (hH20.sub sR) (fun w hS => run_move e5_16) ?_
  refine AT 1 rfl (hH20.sub sR) (fun w hS => run_ldRel underlying48 rfl rfl e1_16 (hS.ext hb)) ?_
  refine AT 2 rfl (hH20.sub sR) (fun w hS => run_ldRel underlying48 rfl rfl e1_16 (hS.ext hb)) ?_
  refine AT 3 rfl (hH20.sub sR) (fun w hS => run_ld underlying32 rfl e2_16 (hS.extCell hc (v := U _) rfl)) ?_
  refine AT 4 rfl (hH20.sub sR) (fun w hS => mV (I _) rfl) ?_
  refine A1 5 ?_
  refine AO.callP rfl gnone rfl hH20 sR (c_grid_row _ _ _ (above_lt hr (lst_at h0 ‹_›)) _) (run_call3 call98 rfl rfl rfl) ?_
  intro w21 hH22
  refine A1 6 ?_
  refine AO.callP rfl gnone rfl hH22 sR (c_relate_Down _ _  _) (run_call2 call135 rfl rfl) ?_
  intro w23 hH24
  refine AT 7 rfl (hH24.sub sR) (fun w hS => run_orU rfl rfl) ?_
  refine AT 8 rfl (hH24.sub sR) (fun w hS => aV (U _) rfl) ?_
  refine AD ?_
  refine CW.region ?_
  refine V (run_add e15_16 rfl (by omega)) ?_
  refine V (mV (I _) rfl) ?_
  refine RL.nil ?_
  refine ⟨k + 1, ?_, fr16.u4.u4.u4.u1.u1.u1, hH24, (congrArg U (orAll_next (f := fun p => downR r (growG r s p)) h0 ‹_›)), (congrArg I (by first | rfl | omega)), ?_, ?_⟩
  ·((try dsimp only); omega)
  ·omega
  ·omega
 ·refine CW.exit (id := 0) rfl ?_
  refine SR ?_
  refine V (run_move e5_16) ?_
  refine V (aV (U _) rfl) ?_
  refine RL.nil ?_
  refine CW.ret ?_
  refine outP1 Tryz.results133 (congrArg U ?_) hH16.below
  (rw [take_all ‹_›]; rfl)

theorem c_grid_Close (r : Rl) (s : BitVec 64) (w : World) (hT : Tab w) : Calls Tryz.prog 112 #[.agg (relC r), U s] w (Pure (U (closeG r s)) w) := by
 refine enter Tryz.func112 rfl Tryz.ntmps112 rfl ?_
 have hH := Hp.start w
 refine SR ?_
 refine RL.new rfl hH (f := fun b => (.pointer (some ⟨b, 0, none⟩))) (run_box (v := .agg _) rfl) ?_
 intro b3 w1 hH2
 refine RL.new rfl hH2 (f := fun b => (.pointer (some ⟨b, 0, none⟩))) (run_box (v := U _) rfl) ?_
 intro b6 w4 hH5
 refine V (aV (U 0#64) rfl) ?_
 refine RL.nil ?_
 refine CW.seq ?_
 refine SR ?_
 refine V (run_ldRel underlying48 rfl rfl rfl (hH5.blk (i := 1) rfl)) ?_
 refine RL.callP rfl hH5 (c_grid_Right _  _) (run_call1 call84 rfl) ?_
 intro w7 hH8
 refine V (run_not rfl) ?_
 refine RL.nil ?_
 refine CW.cond rfl (fun h11 => ?_) (fun h11 => ?_)
 ·refine SR ?_
  refine V (aV (U 0#64) rfl) ?_
  refine RL.nil ?_
  refine CW.ret ?_
  refine outP1 Tryz.results112 (congrArg U ?_) hH8.below
  first | exact (close_no (nt ‹_›)).symm | exact close_yes (nf ‹_›)
 ·refine CW.skip ?_
  refine SR ?_
  refine V (run_ldRel underlying48 rfl rfl rfl (hH8.blk (i := 1) rfl)) ?_
  refine V (run_mkF2 (by conv => lhs; whnf) (by conv => lhs; whnf)) ?_
  refine RL.callP rfl hH8 (c_grid_rows r 133 [.pointer (some ⟨b3, 0, none⟩), .pointer (some ⟨b6, 0, none⟩)] (closeF r s) (right_spec (nf ‹(!rightG r) = false›)).1 _ call133 (fun i w h _ _ => c_grid_Close_1 b3 b6 r s i (nf ‹(!rightG r) = false›) w (keep h (hH8.blk (i := 1) rfl)) (keep h (hH8.blk (i := 0) rfl)) ((hT.hp hH8).below h))) (run_call2 call125 rfl rfl) ?_
  intro w12 hH13
  refine V (aV (U _) rfl) ?_
  refine RL.nil ?_
  refine CW.ret ?_
  refine outP1 Tryz.results112 (congrArg U ?_) hH13.below
  first | exact (close_no (nt ‹_›)).symm | exact close_yes (nf ‹_›)

theorem c_grid_Closed (r : Rl) (s : BitVec 64) (w : World) (hT : Tab w) : Calls Tryz.prog 81 #[.agg (relC r), U s] w (Pure (B (closedG r s)) w) := by
 refine enter Tryz.func81 rfl Tryz.ntmps81 rfl ?_
 have hH := Hp.start w
 refine SR ?_
 refine RL.new rfl hH (f := fun b => (.pointer (some ⟨b, 0, none⟩))) (run_box (v := .agg _) rfl) ?_
 intro b3 w1 hH2
 refine V (aV (B false) rfl) ?_
 refine RL.nil ?_
 refine SR ?_
 refine V (run_ldRel underlying48 rfl rfl rfl (hH2.blk (i := 0) rfl)) ?_
 refine RL.callP rfl hH2 (c_grid_Right _  _) (run_call1 call84 rfl) ?_
 intro w4 hH5
 refine V (mV (B _) rfl) ?_
 refine RL.split (dj := 7) rfl (fun h7 => ?_) (fun h7 => ?_)
 ·refine RL.gT rfl (bR (c := true) h7) ?_
  refine V (run_ldRel underlying48 rfl rfl rfl (hH5.blk (i := 0) rfl)) ?_
  refine RL.gT rfl (bR (c := true) h7) ?_
  refine V (mV (U _) rfl) ?_
  refine RL.gT rfl (bR (c := true) h7) ?_
  refine RL.callP rfl hH5 (c_grid_Close _ _  _ (hT.hp hH5)) (run_call2 call112 rfl rfl) ?_
  intro w8 hH9
  refine RL.gT rfl (bR (c := true) h7) ?_
  refine V (mV (U _) rfl) ?_
  refine RL.gT rfl (bR (c := true) h7) ?_
  refine V (run_eqlU rfl rfl) ?_
  refine V (run_pickT (bR (c := true) h7) (v := B _) rfl) ?_
  refine V (aV (B _) rfl) ?_
  refine RL.nil ?_
  refine CW.ret ?_
  refine outP1 Tryz.results81 (congrArg B ?_) hH9.below
  first | (rw [closedG, ‹rightG r = false›]; rfl) | (rw [closedG, ‹rightG r = true›]; rfl)
 ·refine RL.gF rfl rfl (bR (c := false) h7) rfl ?_
  refine RL.gF rfl rfl (bR (c := false) h7) rfl ?_
  refine RL.gF rfl rfl (bR (c := false) h7) rfl ?_
  refine RL.gF rfl rfl (bR (c := false) h7) rfl ?_
  refine RL.gF rfl rfl (bR (c := false) h7) rfl ?_
  refine V (run_pickF (bR (c := false) h7) (v := B false) rfl) ?_
  refine V (aV (B _) rfl) ?_
  refine RL.nil ?_
  refine CW.ret ?_
  refine outP1 Tryz.results81 (congrArg B ?_) hH5.below
  first | (rw [closedG, ‹rightG r = false›]; rfl) | (rw [closedG, ‹rightG r = true›]; rfl)

theorem c_grid_owns (r : Rl) (o : Int) (w : World) : Calls Tryz.prog 99 #[.agg (relC r), I o] w (Pure (B (ownsG r o)) w) := by
 refine enter Tryz.func99 rfl Tryz.ntmps99 rfl ?_
 have hH := Hp.start w
 refine SR ?_
 refine RL.new rfl hH (f := fun b => (.pointer (some ⟨b, 0, none⟩))) (run_box (v := .agg _) rfl) ?_
 intro b3 w1 hH2
 refine V (aV (B false) rfl) ?_
 refine RL.nil ?_
 refine SR ?_
 refine V (run_ldRel underlying48 rfl rfl rfl (hH2.blk (i := 0) rfl)) ?_
 refine RL.callP rfl hH2 (c_grid_Right _  _) (run_call1 call84 rfl) ?_
 intro w4 hH5
 refine V (mV (B _) rfl) ?_
 refine RL.split (dj := 7) rfl (fun h7 => ?_) (fun h7 => ?_)
 ·refine RL.gT rfl (bR (c := true) h7) ?_
  refine V (mV (I _) rfl) ?_
  refine RL.gT rfl (bR (c := true) h7) ?_
  refine V (run_geq rfl rfl) ?_
  refine V (run_pickT (bR (c := true) h7) (v := B _) rfl) ?_
  refine V (mV (B _) rfl) ?_
  refine RL.splitP (dj := 11) rfl (fun h9 => ?_) (fun h9 => ?_)
  ·refine RL.gT rfl (bT h9) ?_
   refine V (mV (I _) rfl) ?_
   refine RL.gT rfl (bT h9) ?_
   refine V (fA underlying48 0 rfl sizeOf3 rfl) ?_
   refine RL.gT rfl (bT h9) ?_
   refine V (run_ld underlying3 rfl rfl (hH5.cell (i := 0) rfl (relC_N _))) ?_
   refine RL.gT rfl (bT h9) ?_
   refine V (run_lss rfl rfl) ?_
   refine V (run_pickT (bT h9) (v := B _) rfl) ?_
   refine V (aV (B _) rfl) ?_
   refine RL.nil ?_
   refine CW.ret ?_
   refine outP1 Tryz.results99 (congrArg B ?_) hH5.below
   first | rw [own_no (.inl ‹_›)] | rw [own_no (.inr (by omega))] | (rw [ownsG, ‹rightG r = true›, Bool.true_and, Bool.eq_iff_iff]; simp only [decide_eq_true_eq]; omega)
  ·refine RL.gF rfl rfl (bF h9) rfl ?_
   refine RL.gF rfl rfl (bF h9) rfl ?_
   refine RL.gF rfl rfl (bF h9) rfl ?_
   refine RL.gF rfl rfl (bF h9) rfl ?_
   refine V (run_pickF (bF h9) (v := B false) rfl) ?_
   refine V (aV (B _) rfl) ?_
   refine RL.nil ?_
   refine CW.ret ?_
   refine outP1 Tryz.results99 (congrArg B ?_) hH5.below
   first | rw [own_no (.inl ‹_›)] | rw [own_no (.inr (by omega))] | (rw [ownsG, ‹rightG r = true›, Bool.true_and, Bool.eq_iff_iff]; simp only [decide_eq_true_eq]; omega)
 ·refine RL.gF rfl rfl (bR (c := false) h7) rfl ?_
  refine RL.gF rfl rfl (bR (c := false) h7) rfl ?_
  refine V (run_pickF (bR (c := false) h7) (v := B false) rfl) ?_
  refine V (mV (B _) rfl) ?_
  refine RL.gF rfl rfl rfl rfl ?_
  refine RL.gF rfl rfl rfl rfl ?_
  refine RL.gF rfl rfl rfl rfl ?_
  refine RL.gF rfl rfl rfl rfl ?_
  refine V (run_pickF rfl (v := B false) rfl) ?_
  refine V (aV (B _) rfl) ?_
  refine RL.nil ?_
  refine CW.ret ?_
  refine outP1 Tryz.results99 (congrArg B ?_) hH5.below
  first | rw [own_no (.inl ‹_›)] | rw [own_no (.inr (by omega))] | (rw [ownsG, ‹rightG r = true›, Bool.true_and, Bool.eq_iff_iff]; simp only [decide_eq_true_eq]; omega)

theorem c_grid_Rule_1 (b c : Nat) (o : Int) (s : BitVec 64) (i : Int) (w : World) (hb : w.heap[b]? = some (.cells #[I o] 3 (0, 0))) (hc : w.heap[c]? = some (.cells #[U s] 32 (0, 0))) : Calls Tryz.prog 126 #[I i, .pointer (some ⟨b, 0, none⟩), .pointer (some ⟨c, 0, none⟩)] w (Pure (U (ownF o s i)) w) := by
 refine enter Tryz.func126 rfl Tryz.ntmps126 rfl ?_
 have hH := Hp.start w
 refine SR ?_
 refine V (aV (U 0#64) rfl) ?_
 refine RL.nil ?_
 refine CW.seq ?_
 refine SR ?_
 refine V (mV (I _) rfl) ?_
 refine V (run_ld underlying3 rfl rfl (hH.extCell hb (v := I _) rfl)) ?_
 refine V (run_eql rfl rfl) ?_
 refine RL.nil ?_
 refine CW.condP rfl (fun h2 => ?_) (fun h2 => ?_)
 ·refine SR ?_
  refine V (run_ld underlying32 rfl rfl (hH.extCell hc (v := U _) rfl)) ?_
  refine V (aV (U _) rfl) ?_
  refine RL.nil ?_
  refine CW.ret ?_
  refine outP1 Tryz.results126 (congrArg U ?_) hH.below
  first | rw [ownF, if_pos ‹_›] | rw [ownF, if_neg ‹_›]
 ·refine CW.skip ?_
  refine SR ?_
  refine V (aV (U 0#64) rfl) ?_
  refine RL.nil ?_
  refine CW.ret ?_
  refine outP1 Tryz.results126 (congrArg U ?_) hH.below
  first | rw [ownF, if_pos ‹_›] | rw [ownF, if_neg ‹_›]

theorem c_grid_Rule (r : Rl) (o : Int) (s : BitVec 64) (w : World) (hT : Tab w) : Calls Tryz.prog 89 #[.agg (relC r), I o, U s] w (Pure (U (ruleG r o s)) w) := by
 refine enter Tryz.func89 rfl Tryz.ntmps89 rfl ?_
 have hH := Hp.start w
 refine SR ?_
 refine RL.new rfl hH (f := fun b => (.pointer (some ⟨b, 0, none⟩))) (run_box (v := .agg _) rfl) ?_
 intro b3 w1 hH2
 refine RL.new rfl hH2 (f := fun b => (.pointer (some ⟨b, 0, none⟩))) (run_box (v := I _) rfl) ?_
 intro b6 w4 hH5
 refine V (aV (U 0#64) rfl) ?_
 refine RL.nil ?_
 refine CW.seq ?_
 refine SR ?_
 refine V (run_ldRel underlying48 rfl rfl rfl (hH5.blk (i := 1) rfl)) ?_
 refine V (run_ld underlying3 rfl rfl (hH5.cell (i := 0) rfl (v := I _) rfl)) ?_
 refine RL.callP rfl hH5 (c_grid_owns _ _  _) (run_call2 call99 rfl rfl) ?_
 intro w7 hH8
 refine V (run_not rfl) ?_
 refine RL.nil ?_
 refine CW.cond rfl (fun h11 => ?_) (fun h11 => ?_)
 ·refine SR ?_
  refine V (aV (U 0#64) rfl) ?_
  refine RL.nil ?_
  refine CW.ret ?_
  refine outP1 Tryz.results89 (congrArg U ?_) hH8.below
  first | exact (rule_no (nt ‹_›)).symm | (rw [ruleG, if_pos (nf ‹_›)])
 ·refine CW.skip ?_
  refine CW.seq ?_
  refine CW.regionD (by kernel_rfl) hH8 ?_
  intro w12 hH13
  refine AT 0 rfl (hH13.sub sR) (fun w hS => fA underlying48 0 rfl sizeOf3 rfl) ?_
  refine AT 1 rfl (hH13.sub sR) (fun w hS => run_ld underlying3 rfl rfl (hS.cell (i := 1) rfl (relC_N _))) ?_
  refine AT 3 rfl (hH13.sub sR) (fun w hS => run_ldRel underlying48 rfl rfl rfl (hS.blk (i := 1) rfl)) ?_
  refine AT 4 rfl (hH13.sub sR) (fun w hS => mV (U _) rfl) ?_
  refine AN.two 2 7 (by kernel_rfl) ?_ ?_
  ·refine AO.callP rfl gnone rfl hH13 sR (c_mask_Below _  _) (run_call1 call80 rfl) ?_
   intro w14 hH15
   refine AN.two 5 7 (by kernel_rfl) ?_ ?_
   ·refine AO.callP rfl gnone rfl hH15 sR (c_relate_Up _ _  _ (hT.hp hH15)) (run_call2 call124 rfl rfl) ?_
    intro w16 hH17
    refine AT 6 rfl (hH17.sub sR) (fun w hS => run_andNotU rfl rfl) ?_
    refine A1 7 ?_
    refine AO.new rfl gnone rfl hH17 sR (f := fun b => .pointer (some ⟨b, 0, none⟩)) (run_alloc Tryz.zeroValue32) ?_
    intro b20 w18 hH19
    refine A1 8 ?_
    refine AO.set rfl gnone hH19 (j := 0) rfl (sQ sR) (run_st rfl rfl (v := U _) rfl rfl rfl (hH19.blk (i := 0) rfl) (by first | decide | simp)) ?_
    intro w21 hH22
    simp only [z0, z1] at hH22
    refine AD ?_
    refine CW.seq ?_
    refine CW.regionD (by kernel_rfl) hH22 ?_
    intro w23 hH24
    refine AT 0 rfl (hH24.sub sR) (fun w hS => run_ldRel underlying48 rfl rfl rfl (hS.blk (i := 2) rfl)) ?_
    refine AT 1 rfl (hH24.sub sR) (fun w hS => run_ldRel underlying48 rfl rfl rfl (hS.blk (i := 2) rfl)) ?_
    refine AT 2 rfl (hH24.sub sR) (fun w hS => run_mkF2 (by conv => lhs; whnf) (by conv => lhs; whnf)) ?_
    refine A1 3 ?_
    refine AO.callP rfl gnone rfl hH24 sR (c_grid_rows r 126 [.pointer (some ⟨b6, 0, none⟩), .pointer (some ⟨b20, 0, none⟩)] (ownF o (below r.n &&& ~~~upR r s)) (right_spec (own_spec (nf ‹(!ownsG r o) = false›)).1).1 _ call126 (fun i w h _ _ => c_grid_Rule_1 b6 b20 o (below r.n &&& ~~~upR r s) i w (keep h (hH24.blk (i := 1) rfl)) (keep h (hH24.blk (i := 0) rfl)))) (run_call2 call125 rfl rfl) ?_
    intro w25 hH26
    refine A1 4 ?_
    refine AO.callP rfl gnone rfl hH26 sR (c_grid_Close _ _  _ (hT.hp hH26)) (run_call2 call112 rfl rfl) ?_
    intro w27 hH28
    refine AT 5 rfl (hH28.sub sR) (fun w hS => aV (U _) rfl) ?_
    refine AD ?_
    refine CW.ret ?_
    refine outP1 Tryz.results89 (congrArg U ?_) hH28.below
    first | exact (rule_no (nt ‹_›)).symm | (rw [ruleG, if_pos (nf ‹_›)])
   ·refine AO.new rfl gnone rfl hH15 sR (f := fun b => .pointer (some ⟨b, 0, none⟩)) (run_alloc Tryz.zeroValue32) ?_
    intro b31 w29 hH30
    refine A1 5 ?_
    refine AO.callP rfl gnone rfl hH30 (sQ sR) (c_relate_Up _ _  _ (hT.hp hH30)) (run_call2 call124 rfl rfl) ?_
    intro w32 hH33
    refine AT 6 rfl (hH33.sub (sQ sR)) (fun w hS => run_andNotU rfl rfl) ?_
    refine A1 8 ?_
    refine AO.set rfl gnone hH33 (j := 0) rfl (sQ sR) (run_st rfl rfl (v := U _) rfl rfl rfl (hH33.blk (i := 0) rfl) (by first | decide | simp)) ?_
    intro w34 hH35
    simp only [z0, z1] at hH35
    refine AD ?_
    refine CW.seq ?_
    refine CW.regionD (by kernel_rfl) hH35 ?_
    intro w36 hH37
    refine AT 0 rfl (hH37.sub sR) (fun w hS => run_ldRel underlying48 rfl rfl rfl (hS.blk (i := 2) rfl)) ?_
    refine AT 1 rfl (hH37.sub sR) (fun w hS => run_ldRel underlying48 rfl rfl rfl (hS.blk (i := 2) rfl)) ?_
    refine AT 2 rfl (hH37.sub sR) (fun w hS => run_mkF2 (by conv => lhs; whnf) (by conv => lhs; whnf)) ?_
    refine A1 3 ?_
    refine AO.callP rfl gnone rfl hH37 sR (c_grid_rows r 126 [.pointer (some ⟨b6, 0, none⟩), .pointer (some ⟨b31, 0, none⟩)] (ownF o (below r.n &&& ~~~upR r s)) (right_spec (own_spec (nf ‹(!ownsG r o) = false›)).1).1 _ call126 (fun i w h _ _ => c_grid_Rule_1 b6 b31 o (below r.n &&& ~~~upR r s) i w (keep h (hH37.blk (i := 1) rfl)) (keep h (hH37.blk (i := 0) rfl)))) (run_call2 call125 rfl rfl) ?_
    intro w38 hH39
    refine A1 4 ?_
    refine AO.callP rfl gnone rfl hH39 sR (c_grid_Close _ _  _ (hT.hp hH39)) (run_call2 call112 rfl rfl) ?_
    intro w40 hH41
    refine AT 5 rfl (hH41.sub sR) (fun w hS => aV (U _) rfl) ?_
    refine AD ?_
    refine CW.ret ?_
    refine outP1 Tryz.results89 (congrArg U ?_) hH41.below
    first | exact (rule_no (nt ‹_›)).symm | (rw [ruleG, if_pos (nf ‹_›)])
  ·refine AO.new rfl gnone rfl hH13 sR (f := fun b => .pointer (some ⟨b, 0, none⟩)) (run_alloc Tryz.zeroValue32) ?_
   intro b44 w42 hH43
   refine A1 2 ?_
   refine AO.callP rfl gnone rfl hH43 (sQ sR) (c_mask_Below _  _) (run_call1 call80 rfl) ?_
   intro w45 hH46
   refine A1 5 ?_
   refine AO.callP rfl gnone rfl hH46 (sQ sR) (c_relate_Up _ _  _ (hT.hp hH46)) (run_call2 call124 rfl rfl) ?_
   intro w47 hH48
   refine AT 6 rfl (hH48.sub (sQ sR)) (fun w hS => run_andNotU rfl rfl) ?_
   refine A1 8 ?_
   refine AO.set rfl gnone hH48 (j := 0) rfl (sQ sR) (run_st rfl rfl (v := U _) rfl rfl rfl (hH48.blk (i := 0) rfl) (by first | decide | simp)) ?_
   intro w49 hH50
   simp only [z0, z1] at hH50
   refine AD ?_
   refine CW.seq ?_
   refine CW.regionD (by kernel_rfl) hH50 ?_
   intro w51 hH52
   refine AT 0 rfl (hH52.sub sR) (fun w hS => run_ldRel underlying48 rfl rfl rfl (hS.blk (i := 2) rfl)) ?_
   refine AT 1 rfl (hH52.sub sR) (fun w hS => run_ldRel underlying48 rfl rfl rfl (hS.blk (i := 2) rfl)) ?_
   refine AT 2 rfl (hH52.sub sR) (fun w hS => run_mkF2 (by conv => lhs; whnf) (by conv => lhs; whnf)) ?_
   refine A1 3 ?_
   refine AO.callP rfl gnone rfl hH52 sR (c_grid_rows r 126 [.pointer (some ⟨b6, 0, none⟩), .pointer (some ⟨b44, 0, none⟩)] (ownF o (below r.n &&& ~~~upR r s)) (right_spec (own_spec (nf ‹(!ownsG r o) = false›)).1).1 _ call126 (fun i w h _ _ => c_grid_Rule_1 b6 b44 o (below r.n &&& ~~~upR r s) i w (keep h (hH52.blk (i := 1) rfl)) (keep h (hH52.blk (i := 0) rfl)))) (run_call2 call125 rfl rfl) ?_
   intro w53 hH54
   refine A1 4 ?_
   refine AO.callP rfl gnone rfl hH54 sR (c_grid_Close _ _  _ (hT.hp hH54)) (run_call2 call112 rfl rfl) ?_
   intro w55 hH56
   refine AT 5 rfl (hH56.sub sR) (fun w hS => aV (U _) rfl) ?_
   refine AD ?_
   refine CW.ret ?_
   refine outP1 Tryz.results89 (congrArg U ?_) hH56.below
   first | exact (rule_no (nt ‹_›)).symm | (rw [ruleG, if_pos (nf ‹_›)])

theorem c_grid_Readers (r : Rl) (s : BitVec 64) (o : Int) (w : World) : Calls Tryz.prog 57 #[.agg (relC r), U s, I o] w (Pure (U (readersG r s o)) w) := by
 refine enter Tryz.func57 rfl Tryz.ntmps57 rfl ?_
 have hH := Hp.start w
 refine SR ?_
 refine RL.new rfl hH (f := fun b => (.pointer (some ⟨b, 0, none⟩))) (run_box (v := .agg _) rfl) ?_
 intro b3 w1 hH2
 refine V (aV (U 0#64) rfl) ?_
 refine RL.nil ?_
 refine CW.seq ?_
 refine SR ?_
 refine V (run_ldRel underlying48 rfl rfl rfl (hH2.blk (i := 0) rfl)) ?_
 refine V (mV (I _) rfl) ?_
 refine RL.callP rfl hH2 (c_grid_owns _ _  _) (run_call2 call99 rfl rfl) ?_
 intro w4 hH5
 refine V (run_not rfl) ?_
 refine RL.nil ?_
 refine CW.cond rfl (fun h8 => ?_) (fun h8 => ?_)
 ·refine SR ?_
  refine V (aV (U 0#64) rfl) ?_
  refine RL.nil ?_
  refine CW.ret ?_
  refine outP1 Tryz.results57 (congrArg U ?_) hH5.below
  first | exact (read_no (nt ‹_›)).symm | (rw [readersG, if_pos (nf ‹_›)])
 ·refine CW.skip ?_
  refine CW.seq ?_
  refine CW.regionD (by kernel_rfl) hH5 ?_
  intro w9 hH10
  refine AT 0 rfl (hH10.sub sR) (fun w hS => fA underlying48 0 rfl sizeOf3 rfl) ?_
  refine AT 1 rfl (hH10.sub sR) (fun w hS => run_ld underlying3 rfl rfl (hS.cell (i := 0) rfl (relC_N _))) ?_
  refine AT 3 rfl (hH10.sub sR) (fun w hS => run_ldRel underlying48 rfl rfl rfl (hS.blk (i := 0) rfl)) ?_
  refine AT 4 rfl (hH10.sub sR) (fun w hS => mV (U _) rfl) ?_
  refine AT 5 rfl (hH10.sub sR) (fun w hS => mV (I _) rfl) ?_
  refine A1 2 ?_
  refine AO.callP rfl gnone rfl hH10 sR (c_mask_Below _  _) (run_call1 call80 rfl) ?_
  intro w11 hH12
  refine A1 6 ?_
  refine AO.callP rfl gnone rfl hH12 sR (c_grid_row _ _ _ (own_lt (nf ‹(!ownsG r o) = false›)) _) (run_call3 call98 rfl rfl rfl) ?_
  intro w13 hH14
  refine AT 7 rfl (hH14.sub sR) (fun w hS => run_andNotU rfl rfl) ?_
  refine AT 8 rfl (hH14.sub sR) (fun w hS => aV (U _) rfl) ?_
  refine AD ?_
  refine CW.ret ?_
  refine outP1 Tryz.results57 (congrArg U ?_) hH14.below
  first | exact (read_no (nt ‹_›)).symm | (rw [readersG, if_pos (nf ‹_›)])

theorem c_grid_Owners (r : Rl) (s : BitVec 64) (w : World) : Calls Tryz.prog 56 #[.agg (relC r), U s] w (Pure (U (ownersG r s)) w) := by
 refine enter Tryz.func56 rfl Tryz.ntmps56 rfl ?_
 have hH := Hp.start w
 refine SR ?_
 refine RL.new rfl hH (f := fun b => (.pointer (some ⟨b, 0, none⟩))) (run_box (v := .agg _) rfl) ?_
 intro b3 w1 hH2
 refine V (aV (U 0#64) rfl) ?_
 refine RL.nil ?_
 refine SR ?_
 refine V (aV (U 0#64) rfl) ?_
 refine RL.nil ?_
 refine CW.seq ?_
 refine SR ?_
 refine V (run_ldRel underlying48 rfl rfl rfl (hH2.blk (i := 0) rfl)) ?_
 refine RL.callP rfl hH2 (c_grid_Right _  _) (run_call1 call84 rfl) ?_
 intro w4 hH5
 refine V (run_not rfl) ?_
 refine RL.nil ?_
 refine CW.cond rfl (fun h8 => ?_) (fun h8 => ?_)
 ·refine SR ?_
  refine V (aV (U 0#64) rfl) ?_
  refine RL.nil ?_
  refine CW.ret ?_
  refine outP1 Tryz.results56 (congrArg U ?_) hH5.below
  first | exact (owner_no (nt ‹_›)).symm | exact owner_yes hr (by omega)
 ·refine CW.skip ?_
  refine CW.seq ?_
  refine SR ?_
  refine V (fA underlying48 0 rfl sizeOf3 rfl) ?_
  refine V (run_ld underlying3 rfl rfl (hH5.cell (i := 0) rfl (relC_N _))) ?_
  refine V (mV (I 0) rfl) ?_
  refine RL.nil ?_
  refine CW.block ?_
  have hr : rightG r = true := nf ‹_›
  have hs := right_spec hr
  refine CW.loop (G := (Int)) (fun (k : Int) s' w' => (Fr [5, 6, 12, 13, 14, 15, 16, 17, 18, 19, 20, 21, 22, 23] _ s') ∧ (Hp w w' _) ∧ (s' 5 = U (ofl (ownL r s k))) ∧ (s' 12 = I k) ∧ (0 ≤ k) ∧ (k ≤ r.n)) (fun (k : Int) => (r.n - k).toNat) (0) ⟨Fr.refl _ _, hH5, (congrArg U (by rfl)), rfl, (by omega), (by omega)⟩ ?_
  rintro k sg9 w9 ⟨fr9, hH9, e5_9, e12_9, h0, hk⟩
  have e1_9 : sg9 1 = U _ := (fr9 1 rfl).trans rfl
  have e2_9 : sg9 2 = Pn _ _ := (fr9 2 rfl).trans rfl
  have e4_9 : sg9 4 = U _ := (fr9 4 rfl).trans rfl
  have e11_9 : sg9 11 = I _ := (fr9 11 rfl).trans rfl
  refine SR ?_
  refine V (run_lss e12_9 e11_9) ?_
  refine RL.nil ?_
  refine CW.seq ?_
  refine CW.condP rfl (fun h11 => ?_) (fun h11 => ?_)
  ·refine CW.skip ?_
   refine CW.seq ?_
   refine CW.block ?_
   refine SR ?_
   refine V (run_move e12_9) ?_
   refine V (aV (I _) rfl) ?_
   refine RL.nil ?_
   refine SR ?_
   refine V (run_ldRel underlying48 rfl rfl e2_9 (hH9.blk (i := 0) rfl)) ?_
   refine V (run_move e1_9) ?_
   refine V (mV (I _) rfl) ?_
   refine RL.callP rfl hH9 (c_grid_row _ _ _ (by omega) _) (run_call3 call98 rfl rfl rfl) ?_
   intro w12 hH13
   refine V (run_neqU rfl (b := 0#64) rfl) ?_
   refine RL.nil ?_
   refine CW.condP rfl (fun h15 => ?_) (fun h15 => ?_)
   ·refine CW.region ?_
    refine V (run_move e5_9) ?_
    refine V (mV (I _) rfl) ?_
    refine RL.callP rfl hH13 (c_mask_With _ _  _) (run_call2 call88 rfl rfl) ?_
    intro w16 hH17
    refine V (aV (U _) rfl) ?_
    refine RL.nil ?_
    refine CW.region ?_
    refine V (run_add e12_9 rfl (by omega)) ?_
    refine V (mV (I _) rfl) ?_
    refine RL.nil ?_
    refine ⟨k + 1, ?_, fr9.u4.u4.u4.u1.u1, hH17, (congrArg U (by first | (rw [withB_ofl, ownL_yes h0 ‹_›]) | (rw [ownL_no h0 ‹_›]))), (congrArg I (by first | rfl | omega)), ?_, ?_⟩
    ·((try dsimp only); omega)
    ·omega
    ·omega
   ·refine CW.skip ?_
    refine CW.region ?_
    refine V (run_add e12_9 rfl (by omega)) ?_
    refine V (mV (I _) rfl) ?_
    refine RL.nil ?_
    refine ⟨k + 1, ?_, fr9.u4.u4.u1.u1, hH13, (Eq.trans e5_9 (congrArg U (by first | (rw [withB_ofl, ownL_yes h0 ‹_›]) | (rw [ownL_no h0 ‹_›])))), (congrArg I (by first | rfl | omega)), ?_, ?_⟩
    ·((try dsimp only); omega)
    ·omega
    ·omega
  ·refine CW.exit (id := 0) rfl ?_
   refine SR ?_
   refine V (run_move e5_9) ?_
   refine V (aV (U _) rfl) ?_
   refine RL.nil ?_
   refine CW.ret ?_
   refine outP1 Tryz.results56 (congrArg U ?_) hH9.below
   first | exact (owner_no (nt ‹_›)).symm | exact owner_yes hr (by omega)

end Go.Proofs.YtningfhcklabmaaGreatDoor.W
