/-
  The walks of the functions that the laws of this seat reach, part 1: each returns what its plain counterpart tells, and turns nothing that was there.
-/
import Derived.Test.YtningfhcklabmaaDoorProg
import Derived.Test.YtningfhcklabmaaDoorEnv
import Derived.Test.YtningfhcklabmaaDoorPlain
import Derived.Test.YtningfhcklabmaaDoorBase
import Derived.Test.YtningfhcklabmaaDoorOrd
import Derived.Test.YtningfhcklabmaaDoorRel
import Derived.Test.YtningfhcklabmaaDoorClo
import Derived.Test.YtningfhcklabmaaDoorCov
import Derived.Test.YtningfhcklabmaaDoorArr
import Derived.Test.YtningfhcklabmaaDoorHas
import Derived.Test.YtningfhcklabmaaDoorGrd
import Derived.Test.YtningfhcklabmaaDoorStr
import Derived.Test.YtningfhcklabmaaDoorVu
import Derived.Test.YtningfhcklabmaaDoorShp
import Derived.Test.YtningfhcklabmaaDoorShl
import Derived.Test.YtningfhcklabmaaDoorShq
import Derived.Test.YtningfhcklabmaaDoorShr
import Derived.Test.YtningfhcklabmaaDoorCut
import Derived.Test.YtningfhcklabmaaDoorRec
import Derived.Test.YtningfhcklabmaaDoorOut
import Derived.Test.YtningfhcklabmaaDoorScp
import Derived.Test.YtningfhcklabmaaDoorScq
import Derived.Test.YtningfhcklabmaaDoorByt
import Derived.Test.YtningfhcklabmaaDoorNod
import Derived.Test.YtningfhcklabmaaDoorSpl
import Derived.Test.YtningfhcklabmaaDoorSpb
import Derived.Test.YtningfhcklabmaaDoorSpt
import Derived.Test.YtningfhcklabmaaDoorSpn
import Derived.Test.YtningfhcklabmaaDoorSpx
import Derived.Test.YtningfhcklabmaaDoorSpy
import Derived.Test.YtningfhcklabmaaDoorMin
namespace Go.Proofs.YtningfhcklabmaaDoor.W
open Go Go.RowKit Go.Proofs.YtningfhcklabmaaDoor.E Go.Proofs.YtningfhcklabmaaDoor.M
set_option linter.unusedVariables false
set_option linter.unusedSimpArgs false
set_option maxRecDepth 100000
open Tryd

theorem zero_rel : ∀ w, (zeroValue 46).run Tryd.prog w = .ok (.agg (relC Rl.none)) w := fun w => by
  rw [relC_def]; exact Tryd.zeroValue46 w
theorem built_rel (a : Int) : Tryd.prog.built 46 [(0, I a)] = some (relC ⟨a, fun _ => 0#64⟩) := by
  rw [relC_def]; rfl
theorem relT_fields : Tryd.prog.fieldsOf 46 = #[{ name := "N", type := 3, offset := 0, embedded := false, tag := "", pkgPath := "", byteOffset := 0 }, { name := "Up", type := 44, offset := 1, embedded := false, tag := "", pkgPath := "", byteOffset := 8 }] := by
  unfold Program.fieldsOf; rw [Tryd.underlying46]
theorem relT_fact : RelT Tryd.prog 46 { name := "N", type := 3, offset := 0, embedded := false, tag := "", pkgPath := "", byteOffset := 0 } { name := "Up", type := 44, offset := 1, embedded := false, tag := "", pkgPath := "", byteOffset := 8 } 25 :=
  ⟨by rw [relT_fields]; exact Tryd.underlying46, relT_fields, by decide, by decide, rfl, rfl, Tryd.underlying3, Tryd.isAgg3, Tryd.underlying44, Tryd.isAgg44, Tryd.sizeOf44, Tryd.underlying25, Tryd.sizeOf25, Tryd.isAgg25, by kernel_rfl, by kernel_rfl⟩
theorem elT_fact : ElT Tryd.prog 27 25 := ⟨Tryd.underlying27, Tryd.underlying25, Tryd.sizeOf25, Tryd.isAgg25, by kernel_rfl⟩
theorem zero_el : ∀ w, (zeroValue 27).run Tryd.prog w = .ok (.agg (elC el0)) w := fun w => by
  rw [elC_zero]; exact Tryd.zeroValue27 w
theorem zero_fac : ∀ w, (zeroValue 48).run Tryd.prog w = .ok (.agg (facC fac0)) w := fun w => Tryd.zeroValue48 w
theorem built_rel0 : Tryd.prog.built 46 [] = some (relC Rl.none) := by
  rw [relC_def]; rfl
theorem built_shpT {v : Value} (h : v.cells = #[v]) : Tryd.prog.built 24 [(0, B true), (1, v)] = some #[B true, v] :=
  (show Tryd.prog.built 24 [(0, B true), (1, v)] = Instr.fill (#[(0, 1), (1, 1)][·]?) #[B false, .slice none 0 0] [(0, B true), (1, v)] from rfl).trans (by simp only [Instr.fill, h]; rfl)
theorem built_shp1 {v : Value} (h : v.cells = #[v]) : Tryd.prog.built 24 [(1, v)] = some #[B false, v] :=
  (show Tryd.prog.built 24 [(1, v)] = Instr.fill (#[(0, 1), (1, 1)][·]?) #[B false, .slice none 0 0] [(1, v)] from rfl).trans (by simp only [Instr.fill, h]; rfl)
theorem built_shp0 : Tryd.prog.built 24 [(0, B true)] = some #[B true, .slice none 0 0] := rfl
theorem built_fac (k : Int) (b n : Nat) (l : List Tx) : Tryd.prog.built 48 [(0, I k), (1, .slice (some ⟨b, 0, none⟩) n n)] = some (facC ⟨k, .slice (some ⟨b, 0, none⟩) n n, l, Rl.none⟩) := rfl
theorem built_el2 (a b : BitVec 64) : Tryd.prog.built 27 [(0, U a), (1, U b)] = some (elC (putE (putE el0 0 a) 1 b)) := by
  rw [elC_def]; rfl
theorem built_el1 (a : BitVec 64) : Tryd.prog.built 27 [(0, U a)] = some (elC (putE el0 0 a)) := by
  rw [elC_def]; rfl
theorem zero_flt : ∀ w, (zeroValue 37).run Tryd.prog w = .ok (.agg (fltL flt0).toArray) w := fun w => Tryd.zeroValue37 w
theorem built_fltL (a b : Int) : Tryd.prog.built 37 [(0, I a), (1, I b)] = some (fltL ⟨a, b⟩).toArray := rfl
theorem built_fltL0 : Tryd.prog.built 37 [] = some (fltL flt0).toArray := rfl
theorem built_wdL (a : Tx) (b : Int) : Tryd.prog.built 51 [(0, S a), (1, I b)] = some (wdL ⟨a, b⟩).toArray := rfl
theorem built_wdLs (a : Tx) : Tryd.prog.built 51 [(0, S a)] = some (wdL ⟨a, 0⟩).toArray := rfl
theorem built_el0 : Tryd.prog.built 27 [] = some (elC el0) := by
  rw [elC_def]; rfl
theorem built_node0 : Tryd.prog.built 34 [] = some (nodeL node0).toArray := rfl
theorem eq_wd (a b : Wd) : EqT Tryd.prog 51 (wdL a).toArray (wdL b).toArray (decide (a = b)) :=
  (eqT Tryd.underlying51 (by kernel_rfl) (by kernel_rfl) (.cons (fldS (a := a.text) (b := b.text) (by decide) Tryd.underlying9 Tryd.isAgg9 rfl rfl) (.cons (fldI (k := .i64) (a := a.place) (b := b.place) (by decide) Tryd.underlying3 Tryd.isAgg3 rfl rfl) .nil))).conv (by
    obtain ⟨a1, a2⟩ := a; obtain ⟨b1, b2⟩ := b
    rw [Bool.eq_iff_iff]; simp)
theorem built_up2 : Tryd.prog.built 44 [(0, U 3#64), (1, U 2#64)] = some ((relL twoR).drop 1).toArray := by kernel_rfl
theorem built_relA : Tryd.prog.built 46 [(0, I 2), (1, .agg ((relL twoR).drop 1).toArray)] = some (relC twoR) := by
  rw [relC_def]; kernel_rfl
theorem built_facR (k : Int) (b n : Nat) (l : List Tx) : Tryd.prog.built 48 [(0, I k), (1, .slice (some ⟨b, 0, none⟩) n n), (2, .agg (relC twoR))] = some (facC ⟨k, .slice (some ⟨b, 0, none⟩) n n, l, twoR⟩) := by
  rw [relC_def]; kernel_rfl
theorem built_nodeKd (k : Int) (b n : Nat) (l : List NodeR) : Tryd.prog.built 34 [(0, I k), (4, .slice (some ⟨b, 0, none⟩) n n)] = some (nodeL (kidsR k (.slice (some ⟨b, 0, none⟩) n n) l)).toArray := rfl
theorem built_nodeK (k : Int) : Tryd.prog.built 34 [(0, I k)] = some (nodeL (kindR k tx0 (.slice none 0 0) [])).toArray := rfl
theorem built_nodeT (k : Int) (t : Tx) : Tryd.prog.built 34 [(0, I k), (2, S t)] = some (nodeL (kindR k t (.slice none 0 0) [])).toArray := rfl
theorem built_nodeN {v : Value} (h : v.cells = #[v]) (k : Int) (l : List Wd) : Tryd.prog.built 34 [(0, I k), (3, v)] = some (nodeL (kindR k tx0 v l)).toArray :=
  (show Tryd.prog.built 34 [(0, I k), (3, v)] = Instr.fill (#[(0, 1), (1, 1), (2, 1), (3, 1), (4, 1)][·]?) (nodeL node0).toArray [(0, I k), (3, v)] from rfl).trans (by simp only [Instr.fill, h]; rfl)
theorem built_nodeTN {v : Value} (h : v.cells = #[v]) (k : Int) (t : Tx) (l : List Wd) : Tryd.prog.built 34 [(0, I k), (2, S t), (3, v)] = some (nodeL (kindR k t v l)).toArray :=
  (show Tryd.prog.built 34 [(0, I k), (2, S t), (3, v)] = Instr.fill (#[(0, 1), (1, 1), (2, 1), (3, 1), (4, 1)][·]?) (nodeL node0).toArray [(0, I k), (2, S t), (3, v)] from rfl).trans (by simp only [Instr.fill, h]; rfl)
theorem built_rdrL0 : Tryd.prog.built 57 [] = some #[B false, I 0] := rfl
theorem eq_flt (a b : Flt) : EqT Tryd.prog 37 (fltL a).toArray (fltL b).toArray (decide (a = b)) :=
  (eqT Tryd.underlying37 (by kernel_rfl) (by kernel_rfl) (.cons (fldI (k := .i64) (a := a.cls) (b := b.cls) (by decide) Tryd.underlying3 Tryd.isAgg3 rfl rfl) (.cons (fldI (k := .i64) (a := a.place) (b := b.place) (by decide) Tryd.underlying3 Tryd.isAgg3 rfl rfl) .nil))).conv (by
    obtain ⟨a1, a2⟩ := a; obtain ⟨b1, b2⟩ := b
    rw [Bool.eq_iff_iff]; simp)

theorem c_rung_chain (n : Int) (w : World) : Calls Tryd.prog 57 #[I n] w (Pure (B (chainB n)) w) := by
 refine enter Tryd.func57 rfl Tryd.ntmps57 rfl ?_
 have hH := Hp.start w
 refine SR ?_
 refine V (aV (B false) rfl) ?_
 refine RL.nil ?_
 refine SR ?_
 refine V (mV (I _) rfl) ?_
 refine V (run_geq rfl rfl) ?_
 refine V (mV (B _) rfl) ?_
 refine RL.splitP (dj := 5) rfl (fun h2 => ?_) (fun h2 => ?_)
 ·refine RL.gT rfl (bT h2) ?_
  refine V (mV (I _) rfl) ?_
  refine RL.gT rfl (bT h2) ?_
  refine V (run_leq rfl rfl) ?_
  refine V (run_pickT (bT h2) (v := B _) rfl) ?_
  refine V (aV (B _) rfl) ?_
  refine RL.nil ?_
  refine CW.ret ?_
  refine outP1 Tryd.results57 (congrArg B ?_) hH.below
  (simp [chainB]; omega)
 ·refine RL.gF rfl rfl (bF h2) rfl ?_
  refine RL.gF rfl rfl (bF h2) rfl ?_
  refine V (run_pickF (bF h2) (v := B false) rfl) ?_
  refine V (aV (B _) rfl) ?_
  refine RL.nil ?_
  refine CW.ret ?_
  refine outP1 Tryd.results57 (congrArg B ?_) hH.below
  (simp [chainB]; omega)

theorem c_mask_Below (n : Int) (w : World) : Calls Tryd.prog 25 #[I n] w (Pure (U (below n)) w) := by
 refine enter Tryd.func25 rfl Tryd.ntmps25 rfl ?_
 have hH := Hp.start w
 refine SR ?_
 refine V (aV (U 0#64) rfl) ?_
 refine RL.nil ?_
 refine CW.seq ?_
 refine SR ?_
 refine V (mV (I _) rfl) ?_
 refine V (run_leq rfl rfl) ?_
 refine RL.nil ?_
 refine CW.condP rfl (fun h2 => ?_) (fun h2 => ?_)
 ·refine SR ?_
  refine V (aV (U 0#64) rfl) ?_
  refine RL.nil ?_
  refine CW.ret ?_
  exact outP1 Tryd.results25 (congrArg U (below_nonpos ‹_›).symm) hH.below
 ·refine CW.skip ?_
  refine CW.seq ?_
  refine SR ?_
  refine V (mV (I _) rfl) ?_
  refine V (run_geq rfl rfl) ?_
  refine RL.nil ?_
  refine CW.condP rfl (fun h4 => ?_) (fun h4 => ?_)
  ·refine SR ?_
   refine V (aV (U 18446744073709551615#64) rfl) ?_
   refine RL.nil ?_
   refine CW.ret ?_
   exact outP1 Tryd.results25 (congrArg U (below_all ‹_›).symm) hH.below
  ·refine CW.skip ?_
   refine SR ?_
   refine V (mV (I _) rfl) ?_
   refine V (run_convIU underlying3 underlying83 rfl) ?_
   refine V (run_shlU (a := 1#64) rfl rfl) ?_
   refine V (run_subU rfl (b := 1#64) rfl) ?_
   refine V (aV (U _) rfl) ?_
   refine RL.nil ?_
   refine CW.ret ?_
   exact outP1 Tryd.results25 (congrArg U (below_mid ‹_› ‹_›).symm) hH.below

theorem c_rung_Word (n k : Int) (w : World) : Calls Tryd.prog 60 #[I n, I k] w (Pure (.tuple #[U (wordv n k).1, B (wordv n k).2]) w) := by
 refine enter Tryd.func60 rfl Tryd.ntmps60 rfl ?_
 have hH := Hp.start w
 refine SR ?_
 refine V (aV (U 0#64) rfl) ?_
 refine V (aV (B false) rfl) ?_
 refine RL.nil ?_
 refine CW.seq ?_
 refine SR ?_
 refine V (mV (I _) rfl) ?_
 refine RL.callP rfl hH (c_rung_chain _  _) (run_call1 call57 rfl) ?_
 intro w1 hH2
 refine V (run_not rfl) ?_
 refine V (mV (B _) rfl) ?_
 refine RL.split (dj := 9) rfl (fun h5 => ?_) (fun h5 => ?_)
 ·refine RL.gF rfl rfl (bR (c := true) h5) rfl ?_
  refine RL.gF rfl rfl (bR (c := true) h5) rfl ?_
  refine V (run_pickT (bR (c := true) h5) (v := B true) rfl) ?_
  refine V (mV (B _) rfl) ?_
  refine RL.gF rfl rfl rfl rfl ?_
  refine RL.gF rfl rfl rfl rfl ?_
  refine RL.gF rfl rfl rfl rfl ?_
  refine V (run_pickT rfl (v := B true) rfl) ?_
  refine RL.nil ?_
  refine CW.condT rfl ?_
  refine SR ?_
  refine V (aV (U 0#64) rfl) ?_
  refine V (aV (B false) rfl) ?_
  refine RL.nil ?_
  refine CW.ret ?_
  have hn := chain_f ‹(!chainB n) = true›
  refine outP2 Tryd.results60 (congrArg U ?_) (congrArg B ?_) hH2.below <;> rw [wordv_no (by omega)]
 ·refine RL.gT rfl (bR (c := false) h5) ?_
  refine V (mV (I _) rfl) ?_
  refine RL.gT rfl (bR (c := false) h5) ?_
  refine V (run_lss rfl rfl) ?_
  refine V (run_pickF (bR (c := false) h5) (v := B _) rfl) ?_
  refine V (mV (B _) rfl) ?_
  refine RL.splitP (dj := 13) rfl (fun h7 => ?_) (fun h7 => ?_)
  ·refine RL.gF rfl rfl (bT h7) rfl ?_
   refine RL.gF rfl rfl (bT h7) rfl ?_
   refine RL.gF rfl rfl (bT h7) rfl ?_
   refine V (run_pickT (bT h7) (v := B true) rfl) ?_
   refine RL.nil ?_
   refine CW.condT rfl ?_
   refine SR ?_
   refine V (aV (U 0#64) rfl) ?_
   refine V (aV (B false) rfl) ?_
   refine RL.nil ?_
   refine CW.ret ?_
   have hn := chain_t ‹(!chainB n) = false›
   refine outP2 Tryd.results60 (congrArg U ?_) (congrArg B ?_) hH2.below <;> rw [wordv_no (by omega)]
  ·refine RL.gT rfl (bF h7) ?_
   refine V (mV (I _) rfl) ?_
   refine RL.gT rfl (bF h7) ?_
   refine V (mV (I _) rfl) ?_
   refine RL.gT rfl (bF h7) ?_
   refine V (run_geq rfl rfl) ?_
   refine V (run_pickF (bF h7) (v := B _) rfl) ?_
   refine RL.nil ?_
   refine CW.condP rfl (fun h9 => ?_) (fun h9 => ?_)
   ·refine SR ?_
    refine V (aV (U 0#64) rfl) ?_
    refine V (aV (B false) rfl) ?_
    refine RL.nil ?_
    refine CW.ret ?_
    have hn := chain_t ‹(!chainB n) = false›
    refine outP2 Tryd.results60 (congrArg U ?_) (congrArg B ?_) hH2.below <;> rw [wordv_no (by omega)]
   ·refine CW.skip ?_
    refine SR ?_
    refine V (mV (I _) rfl) ?_
    refine RL.callP rfl hH2 (c_mask_Below _  _) (run_call1 call25 rfl) ?_
    intro w10 hH11
    refine V (aV (U _) rfl) ?_
    refine V (aV (B true) rfl) ?_
    refine RL.nil ?_
    refine CW.ret ?_
    have hn := chain_t ‹(!chainB n) = false›
    refine outP2 Tryd.results60 (congrArg U ?_) (congrArg B ?_) hH11.below <;> rw [wordv_yes (by omega)]

theorem c_rung_Level (n : Int) (s : BitVec 64) (w : World) : Calls Tryd.prog 35 #[I n, U s] w (Pure (.tuple #[I (level n s).1, B (level n s).2]) w) := by
 refine enter Tryd.func35 rfl Tryd.ntmps35 rfl ?_
 have hH := Hp.start w
 refine SR ?_
 refine V (aV (I 0) rfl) ?_
 refine V (aV (B false) rfl) ?_
 refine RL.nil ?_
 refine CW.seq ?_
 refine SR ?_
 refine V (mV (I _) rfl) ?_
 refine RL.callP rfl hH (c_rung_chain _  _) (run_call1 call57 rfl) ?_
 intro w1 hH2
 refine V (run_not rfl) ?_
 refine RL.nil ?_
 refine CW.cond rfl (fun h5 => ?_) (fun h5 => ?_)
 ·refine SR ?_
  refine V (aV (I 0) rfl) ?_
  refine V (aV (B false) rfl) ?_
  refine RL.nil ?_
  refine CW.ret ?_
  have hn := chain_f ‹(!chainB n) = true›
  refine outP2 Tryd.results35 (congrArg I ?_) (congrArg B ?_) hH2.below <;> rw [level_no s hn]
 ·refine CW.skip ?_
  refine CW.seq ?_
  refine SR ?_
  refine V (mV (I _) rfl) ?_
  refine V (mV (I 0) rfl) ?_
  refine RL.nil ?_
  refine CW.block ?_
  have hn := chain_t ‹(!chainB n) = false›
  refine CW.loop (G := (Int)) (fun (k : Int) s' w' => (Fr [4, 5, 6, 11, 12, 13, 14, 15, 16, 17, 18, 19] _ s') ∧ (Hp w w' _) ∧ (s' 11 = I k) ∧ (0 ≤ k) ∧ (k ≤ n) ∧ (∀ j : Int, 0 ≤ j → j < k → s ≠ below j)) (fun (k : Int) => (n - k).toNat) (0) ⟨Fr.refl _ _, hH2, rfl, (by omega), (by omega), fun j a b => absurd b (by omega)⟩ ?_
  rintro k sg6 w6 ⟨fr6, hH6, e11_6, h0, hk, hf⟩
  have e1_6 : sg6 1 = U _ := (fr6 1 rfl).trans rfl
  have e10_6 : sg6 10 = I _ := (fr6 10 rfl).trans rfl
  refine SR ?_
  refine V (run_lss e11_6 e10_6) ?_
  refine RL.nil ?_
  refine CW.seq ?_
  refine CW.condP rfl (fun h8 => ?_) (fun h8 => ?_)
  ·refine CW.skip ?_
   refine CW.seq ?_
   refine CW.block ?_
   refine SR ?_
   refine V (run_move e11_6) ?_
   refine V (aV (I _) rfl) ?_
   refine RL.nil ?_
   refine SR ?_
   refine V (run_move e1_6) ?_
   refine V (mV (I _) rfl) ?_
   refine RL.callP rfl hH6 (c_mask_Below _  _) (run_call1 call25 rfl) ?_
   intro w9 hH10
   refine V (run_eqlU rfl rfl) ?_
   refine RL.nil ?_
   refine CW.condP rfl (fun h12 => ?_) (fun h12 => ?_)
   ·refine SR ?_
    refine V (mV (I _) rfl) ?_
    refine V (aV (I _) rfl) ?_
    refine V (aV (B true) rfl) ?_
    refine RL.nil ?_
    refine CW.ret ?_
    refine outP2 Tryd.results35 (congrArg I ?_) (congrArg B ?_) hH10.below <;> rw [level_at hn h0 (by omega) ‹_› hf]
   ·refine CW.skip ?_
    refine CW.region ?_
    refine V (run_add e11_6 rfl (by omega)) ?_
    refine V (mV (I _) rfl) ?_
    refine RL.nil ?_
    refine ⟨k + 1, ?_, fr6.u4.u4.u1, hH10, (congrArg I (by first | rfl | omega)), ?_, ?_, ?_⟩
    ·((try dsimp only); omega)
    ·omega
    ·omega
    ·exact fun j a b => if e : j = k then e ▸ ‹¬ s = below k› else hf j a (by omega)
  ·refine CW.exit (id := 0) rfl ?_
   refine SR ?_
   refine V (aV (I 0) rfl) ?_
   refine V (aV (B false) rfl) ?_
   refine RL.nil ?_
   refine CW.ret ?_
   refine outP2 Tryd.results35 (congrArg I ?_) (congrArg B ?_) hH6.below <;> rw [level_none hn (fun j a b => hf j a (by omega))]

theorem c_mask_in (i : Int) (w : World) : Calls Tryd.prog 79 #[I i] w (Pure (B (inB i)) w) := by
 refine enter Tryd.func79 rfl Tryd.ntmps79 rfl ?_
 have hH := Hp.start w
 refine SR ?_
 refine V (aV (B false) rfl) ?_
 refine RL.nil ?_
 refine SR ?_
 refine V (mV (I _) rfl) ?_
 refine V (run_geq rfl rfl) ?_
 refine V (mV (B _) rfl) ?_
 refine RL.splitP (dj := 5) rfl (fun h2 => ?_) (fun h2 => ?_)
 ·refine RL.gT rfl (bT h2) ?_
  refine V (mV (I _) rfl) ?_
  refine RL.gT rfl (bT h2) ?_
  refine V (run_lss rfl rfl) ?_
  refine V (run_pickT (bT h2) (v := B _) rfl) ?_
  refine V (aV (B _) rfl) ?_
  refine RL.nil ?_
  refine CW.ret ?_
  refine outP1 Tryd.results79 (congrArg B ?_) hH.below
  (simp [inB]; try omega)
 ·refine RL.gF rfl rfl (bF h2) rfl ?_
  refine RL.gF rfl rfl (bF h2) rfl ?_
  refine V (run_pickF (bF h2) (v := B false) rfl) ?_
  refine V (aV (B _) rfl) ?_
  refine RL.nil ?_
  refine CW.ret ?_
  refine outP1 Tryd.results79 (congrArg B ?_) hH.below
  (simp [inB]; try omega)

theorem c_mask_Has (s : BitVec 64) (i : Int) (w : World) : Calls Tryd.prog 90 #[U s, I i] w (Pure (B (hasB s i)) w) := by
 refine enter Tryd.func90 rfl Tryd.ntmps90 rfl ?_
 have hH := Hp.start w
 refine SR ?_
 refine V (aV (B false) rfl) ?_
 refine RL.nil ?_
 refine SR ?_
 refine V (mV (I _) rfl) ?_
 refine RL.callP rfl hH (c_mask_in _  _) (run_call1 call79 rfl) ?_
 intro w1 hH2
 refine V (mV (B _) rfl) ?_
 refine RL.split (dj := 7) rfl (fun h4 => ?_) (fun h4 => ?_)
 ·refine RL.gT rfl (bR (c := true) h4) ?_
  refine V (mV (U _) rfl) ?_
  refine RL.gT rfl (bR (c := true) h4) ?_
  refine V (mV (I _) rfl) ?_
  refine RL.gT rfl (bR (c := true) h4) ?_
  refine V (run_convIU underlying3 underlying83 rfl) ?_
  refine RL.gT rfl (bR (c := true) h4) ?_
  refine V (run_shrU rfl rfl) ?_
  refine RL.gT rfl (bR (c := true) h4) ?_
  refine V (run_andU rfl (b := 1#64) rfl) ?_
  refine RL.gT rfl (bR (c := true) h4) ?_
  refine V (run_eqlU rfl (b := 1#64) rfl) ?_
  refine V (run_pickT (bR (c := true) h4) (v := B _) rfl) ?_
  refine V (aV (B _) rfl) ?_
  refine RL.nil ?_
  refine CW.ret ?_
  refine outP1 Tryd.results90 (congrArg B ?_) hH2.below
  exact has_bit s ‹inB i = true›
 ·refine RL.gF rfl rfl (bR (c := false) h4) rfl ?_
  refine RL.gF rfl rfl (bR (c := false) h4) rfl ?_
  refine RL.gF rfl rfl (bR (c := false) h4) rfl ?_
  refine RL.gF rfl rfl (bR (c := false) h4) rfl ?_
  refine RL.gF rfl rfl (bR (c := false) h4) rfl ?_
  refine RL.gF rfl rfl (bR (c := false) h4) rfl ?_
  refine V (run_pickF (bR (c := false) h4) (v := B false) rfl) ?_
  refine V (aV (B _) rfl) ?_
  refine RL.nil ?_
  refine CW.ret ?_
  refine outP1 Tryd.results90 (congrArg B ?_) hH2.below
  exact (has_no s ‹inB i = false›).symm

theorem c_mask_With (s : BitVec 64) (i : Int) (w : World) : Calls Tryd.prog 55 #[U s, I i] w (Pure (U (withB s i)) w) := by
 refine enter Tryd.func55 rfl Tryd.ntmps55 rfl ?_
 have hH := Hp.start w
 refine SR ?_
 refine V (aV (U 0#64) rfl) ?_
 refine RL.nil ?_
 refine CW.seq ?_
 refine SR ?_
 refine V (mV (I _) rfl) ?_
 refine RL.callP rfl hH (c_mask_in _  _) (run_call1 call79 rfl) ?_
 intro w1 hH2
 refine V (run_not rfl) ?_
 refine RL.nil ?_
 refine CW.cond rfl (fun h5 => ?_) (fun h5 => ?_)
 ·refine SR ?_
  refine V (mV (U _) rfl) ?_
  refine V (aV (U _) rfl) ?_
  refine RL.nil ?_
  refine CW.ret ?_
  refine outP1 Tryd.results55 (congrArg U ?_) hH2.below
  simp_all [withB]
 ·refine CW.skip ?_
  refine SR ?_
  refine V (mV (U _) rfl) ?_
  refine V (mV (I _) rfl) ?_
  refine V (run_convIU underlying3 underlying83 rfl) ?_
  refine V (run_shlU (a := 1#64) rfl rfl) ?_
  refine V (run_orU rfl rfl) ?_
  refine V (aV (U _) rfl) ?_
  refine RL.nil ?_
  refine CW.ret ?_
  refine outP1 Tryd.results55 (congrArg U ?_) hH2.below
  simp_all [withB]

theorem c_mask_Sub (a b : BitVec 64) (w : World) : Calls Tryd.prog 24 #[U a, U b] w (Pure (B (subB a b)) w) := by
 refine enter Tryd.func24 rfl Tryd.ntmps24 rfl ?_
 have hH := Hp.start w
 refine SR ?_
 refine V (aV (B false) rfl) ?_
 refine RL.nil ?_
 refine SR ?_
 refine V (mV (U _) rfl) ?_
 refine V (mV (U _) rfl) ?_
 refine V (run_andNotU rfl rfl) ?_
 refine V (run_eqlU rfl (b := 0#64) rfl) ?_
 refine V (aV (B _) rfl) ?_
 refine RL.nil ?_
 refine CW.ret ?_
 refine outP1 Tryd.results24 (congrArg B ?_) hH.below
 rfl

theorem c_mask_Of (v : Value) (l : List Int) (w : World) (hs : Sl w v 1 l.length (l.map I)) : Calls Tryd.prog 75 #[v] w (Pure (U (ofl l)) w) := by
 have hm := hs.small
 unfold maxLen at hm
 refine enter Tryd.func75 rfl Tryd.ntmps75 rfl ?_
 have hH := Hp.start w
 refine SR ?_
 refine V (aV (U 0#64) rfl) ?_
 refine RL.nil ?_
 refine SR ?_
 refine V (aV (U 0#64) rfl) ?_
 refine RL.nil ?_
 refine CW.seq ?_
 refine SR ?_
 refine V (run_move (by conv => lhs; whnf)) ?_
 refine V (run_lenSl (hs.hp hH) rfl underlying73 rfl) ?_
 refine V (mV (I 0) rfl) ?_
 refine RL.nil ?_
 refine CW.block ?_
 refine CW.loop (G := (Int)) (fun (k : Int) s' w' => (Fr [3, 5, 8, 9, 10, 11, 12, 13, 14, 15] _ s') ∧ (Hp w w' _) ∧ (s' 3 = U (ofl (l.take k.toNat))) ∧ (s' 8 = I k) ∧ (0 ≤ k) ∧ (k ≤ l.length)) (fun (k : Int) => (l.length - k).toNat) (0) ⟨Fr.refl _ _, hH, (congrArg U (by simp [ofl_nil])), rfl, (by omega), (by omega)⟩ ?_
 rintro k sg1 w1 ⟨fr1, hH1, e3_1, e8_1, h0, hk⟩
 have e2_1 : sg1 2 = U _ := (fr1 2 rfl).trans rfl
 have e6_1 := (fr1 6 rfl).trans (by conv => lhs; whnf)
 have e7_1 : sg1 7 = I _ := (fr1 7 rfl).trans rfl
 refine SR ?_
 refine V (run_lss e8_1 e7_1) ?_
 refine RL.nil ?_
 refine CW.seq ?_
 refine CW.condP rfl (fun h3 => ?_) (fun h3 => ?_)
 ·refine CW.skip ?_
  refine CW.seq ?_
  refine CW.block ?_
  refine SR ?_
  refine V (run_indexAddrS (hs.hp hH1) underlying73 sizeOf3 e6_1 e8_1 (by omega)) ?_
  refine V (run_ld underlying3 rfl rfl ((hs.hp hH1).cell _ _ (map_at (by omega)))) ?_
  refine V (aV (I _) rfl) ?_
  refine RL.nil ?_
  refine CW.region ?_
  refine V (run_move e3_1) ?_
  refine V (mV (I _) rfl) ?_
  refine RL.callP rfl hH1 (c_mask_With _ _  _) (run_call2 call55 rfl rfl) ?_
  intro w4 hH5
  refine V (aV (U _) rfl) ?_
  refine RL.nil ?_
  refine CW.region ?_
  refine V (run_add e8_1 rfl (by omega)) ?_
  refine V (mV (I _) rfl) ?_
  refine RL.nil ?_
  refine ⟨k + 1, ?_, fr1.u4.u4.u1.u1, hH5, (congrArg U (by rw [withB_ofl, ← take_next h0 ‹_›])), (congrArg I (by first | rfl | omega)), ?_, ?_⟩
  ·((try dsimp only); omega)
  ·omega
  ·omega
 ·refine CW.exit (id := 0) rfl ?_
  refine SR ?_
  refine V (run_move e3_1) ?_
  refine V (aV (U _) rfl) ?_
  refine RL.nil ?_
  refine CW.ret ?_
  refine outP1 Tryd.results75 (congrArg U ?_) hH1.below
  rw [take_all ‹_›]

theorem c_rung_Right (n : Int) (s : BitVec 64) (w : World) : Calls Tryd.prog 23 #[I n, U s] w (Pure (B (level n s).2) w) := by
 refine enter Tryd.func23 rfl Tryd.ntmps23 rfl ?_
 have hH := Hp.start w
 refine SR ?_
 refine V (aV (B false) rfl) ?_
 refine RL.nil ?_
 refine SR ?_
 refine V (mV (I _) rfl) ?_
 refine V (mV (U _) rfl) ?_
 refine RL.callP rfl hH (c_rung_Level _ _  _) (run_call2 call35 rfl rfl) ?_
 intro w1 hH2
 refine V (run_move (by conv => lhs; whnf)) ?_
 refine V (run_extract rfl (v := I _) rfl) ?_
 refine V (run_extract rfl (v := B _) rfl) ?_
 refine V (aV (I _) rfl) ?_
 refine V (aV (B _) rfl) ?_
 refine RL.nil ?_
 refine SR ?_
 refine V (mV (B _) rfl) ?_
 refine V (aV (B _) rfl) ?_
 refine RL.nil ?_
 refine CW.ret ?_
 refine outP1 Tryd.results23 (congrArg B ?_) hH2.below
 rfl

theorem c_bits_TrailingZeros64 (s : BitVec 64) (w : World) (hT : Tab w) : Calls Tryd.prog 52 #[U s] w (Pure (I (tz s)) w) := by
 refine enter Tryd.func52 rfl Tryd.ntmps52 rfl ?_
 have hH := Hp.start w
 refine SR ?_
 refine V (aV (I 0) rfl) ?_
 refine RL.nil ?_
 refine CW.seq ?_
 refine SR ?_
 refine V (mV (U _) rfl) ?_
 refine V (run_eqlU rfl (b := 0#64) rfl) ?_
 refine RL.nil ?_
 refine CW.condP rfl (fun h2 => ?_) (fun h2 => ?_)
 ·refine SR ?_
  refine V (aV (I 64) rfl) ?_
  refine RL.nil ?_
  refine CW.ret ?_
  refine outP1 Tryd.results52 (congrArg I ?_) hH.below
  rw [‹s = 0#64›]; rfl
 ·refine CW.skip ?_
  refine SR ?_
  refine V (mV (U _) rfl) ?_
  refine V (mV (U _) rfl) ?_
  refine V (run_negU rfl) ?_
  refine V (run_andU rfl rfl) ?_
  refine V (run_mulU rfl (b := 285870213051353865#64) rfl) ?_
  refine V (run_shrU rfl (b := 58#64) rfl) ?_
  refine V (run_indexAddrA underlying102 sizeOf5 rfl rfl (by exact tz_idx _)) ?_
  refine V (run_ld underlying5 rfl rfl (hT.at _)) ?_
  refine V (run_convUI underlying5 underlying3 rfl (conv_bd (tztab_bd _))) ?_
  refine V (aV (I _) rfl) ?_
  refine RL.nil ?_
  refine CW.ret ?_
  refine outP1 Tryd.results52 (congrArg I ?_) hH.below
  exact tz_ne ‹_›

theorem c_mask_Each (f : FuncId) (cap : Array Value) (Inv Stop : List Int → World → Prop) (s : BitVec 64) (w : World) (hf : ∀ args w, (callFunc f args).run Tryd.prog w = .ok (.enter f args) w) (hm : ∀ l w w', Inv l w → Below w.heap.size w w' → Inv l w') (hT : ∀ l w, Inv l w → Tab w) (go : ∀ l i r w, lst s = l ++ i :: r → Inv l w → Calls Tryd.prog f (#[I i] ++ cap) w (Ret fun u w' => ∃ c : Bool, u = B c ∧ (c = true → Inv (l ++ [i]) w') ∧ (c = false → Stop (l ++ [i]) w'))) (h0 : Inv [] w) : Calls Tryd.prog 29 #[U s, .func (.func f) #[] cap] w (Ret fun u w' => u = .tuple #[] ∧ (Inv (lst s) w' ∨ ∃ l i r, lst s = l ++ i :: r ∧ Stop (l ++ [i]) w')) := by
 refine enter Tryd.func29 rfl Tryd.ntmps29 rfl ?_
 have hH := Hp.start w
 refine CW.block ?_
 refine CW.loop (G := (BitVec 64) × (List Int)) (fun (⟨s1, l⟩ : (BitVec 64) × (List Int)) s' w' => (Fr [0, 4, 5, 6, 7, 8, 9, 10, 11, 12, 13, 14] _ s') ∧ (Inv l w') ∧ (s' 0 = U s1) ∧ (lst s = l ++ lst s1)) (fun (⟨s1, l⟩ : (BitVec 64) × (List Int)) => (lst s1).length) ((s, [])) ⟨Fr.refl _ _, h0, rfl, (by simp)⟩ ?_
 rintro ⟨s1, l⟩ sg1 w1 ⟨fr1, hH1, e0_1, hl⟩
 have hI1 := hH1
 clear hH1
 have hH1 := Hp.start w1
 have e1_1 : sg1 1 = .func _ _ _ := (fr1 1 rfl).trans rfl
 refine CW.seq ?_
 refine SR ?_
 refine V (run_move e0_1) ?_
 refine V (run_neqU rfl (b := 0#64) rfl) ?_
 refine RL.nil ?_
 refine CW.condP rfl (fun h3 => ?_) (fun h3 => ?_)
 ·refine CW.skip ?_
  refine CW.block ?_
  refine CW.seq ?_
  refine SR ?_
  refine V (run_move e1_1) ?_
  refine V (run_move e0_1) ?_
  refine RL.callP rfl hH1 (c_bits_TrailingZeros64 _ _ (hT _ _ hI1)) (run_call1 call52 rfl) ?_
  intro w4 hH5
  have hI := hm _ _ _ hI1 hH5.below
  refine RL.call rfl (run_callV1 hf rfl (v1 := I (tz s1)) rfl) (go l (tz s1) (lst (s1 &&& (s1 - 1#64))) _ (by rw [hl, lst_tz ‹_›]) hI) ?_
  rintro u8 w6 ⟨c, rfl, hJ1, hJ2⟩
  have hH7 := Hp.start w6
  refine V (run_not rfl) ?_
  refine RL.nil ?_
  refine CW.cond rfl (fun h11 => ?_) (fun h11 => ?_)
  ·refine CW.ret ?_
   exact out0 Tryd.results29 ⟨rfl, .inr ⟨l, tz s1, lst (s1 &&& (s1 - 1#64)), by rw [hl, lst_tz ‹_›], hJ2 (by simpa using ‹(!c) = true›)⟩⟩
  ·refine CW.skip ?_
   refine CW.region ?_
   refine V (run_move e0_1) ?_
   refine V (run_move e0_1) ?_
   refine V (run_subU rfl (b := 1#64) rfl) ?_
   refine V (run_andU rfl rfl) ?_
   refine V (aV (U _) rfl) ?_
   refine RL.nil ?_
   refine ⟨(s1 &&& (s1 - 1#64), l ++ [tz s1]), ?_, fr1.u4.u4.u4, (hJ1 (by simpa using ‹(!c) = false›)), rfl, ?_⟩
   ·exact lst_clear_lt ‹_›
   ·rw [hl, lst_tz ‹_›]; simp
 ·refine CW.exit (id := 0) rfl ?_
  have hn : lst s1 = [] := lst_eq_nil.2 (by simpa using ‹¬ s1 ≠ 0#64›)
  exact out0 Tryd.results29 ⟨rfl, .inl (by rw [hl, hn, List.append_nil]; assumption)⟩

theorem c_mask_List_1 (W0 : World) (b : Nat) (v : Value) (l : List Int) (i : Int) (w : World) (hH : Hp W0 w [.row v 3 1 l.length (l.map I), .blk b (.cells #[v] 73 (0, 0))]) (hlen : l.length ≤ 64) : Calls Tryd.prog 53 #[I i, .pointer (some ⟨b, 0, none⟩)] w (Ret fun u w' => u = B true ∧ ∃ v', Hp W0 w' [.row v' 3 1 (l ++ [i]).length ((l ++ [i]).map I), .blk b (.cells #[v'] 73 (0, 0))]) := by
 refine enter Tryd.func53 rfl Tryd.ntmps53 rfl ?_
 refine SR ?_
 refine V (aV (B false) rfl) ?_
 refine RL.nil ?_
 refine SR ?_
 refine V (run_ld underlying73 rfl rfl (hH.cell (i := 1) rfl rfl)) ?_
 refine V (mV (I _) rfl) ?_
 refine RL.new rfl hH (f := fun b => (.slice (some ⟨b, 0, none⟩) 1 1)) (run_mkL underlying73 rfl rfl (sz := 1) (vs := [I _]) rfl rfl (by decide) (by decide) rfl rfl) ?_
 intro b3 w1 hH2
 (try simp only [List.flatMap_cons, List.flatMap_nil, clI, clB, clS, clP, clL, clA, List.append_nil, List.cons_append, List.nil_append] at hH2)
 refine RL.app rfl hH2 (i := 1) rfl (hH2.slBlk (i := 0) (n := 1) (sz := 1) rfl rfl (by decide)) rfl rfl underlying73 rfl rfl (size := 1) (bytes := 8) rfl rfl rfl (by decide) (by simp [Value.oneCell']) (by omega) (by simp only [maxLen]; omega) ?_
 intro v4 w5 hH6
 simp only [z0, z1] at hH6
 refine RL.set hH6 (i := 2) rfl (run_st rfl rfl (by conv => lhs; whnf) (row_cells (hH6.get (i := 1) rfl)).1 (row_cells (hH6.get (i := 1) rfl)).2 (hH6.blk (i := 2) rfl) (by first | decide | simp)) ?_
 intro w7 hH8
 simp only [z0, z1] at hH8
 refine RL.nil ?_
 refine SR ?_
 refine V (aV (B true) rfl) ?_
 refine RL.nil ?_
 refine CW.ret ?_
 exact out1 Tryd.results53 rfl ⟨rfl, (v4 : Value), Hp.conv hH8.tail (by simp)⟩

theorem c_mask_List (s : BitVec 64) (w : World) (hT : Tab w) : Calls Tryd.prog 32 #[U s] w (PureRow 3 1 (lst s).length ((lst s).map I) w) := by
 refine enter Tryd.func32 rfl Tryd.ntmps32 rfl ?_
 have hH := Hp.start w
 refine SR ?_
 refine V (aV (.slice none 0 0) rfl) ?_
 refine RL.nil ?_
 refine SR ?_
 refine RL.new rfl hH (f := fun b => (.pointer (some ⟨b, 0, none⟩))) (run_alloc Tryd.zeroValue73) ?_
 intro b3 w1 hH2
 have hH4 := hH2.nilRow 3 1
 refine RL.nil ?_
 refine SR ?_
 refine V (mV (U _) rfl) ?_
 refine V (run_mkF1 (by conv => lhs; whnf)) ?_
 refine RL.call rfl (run_call2 call29 (v1 := U s) rfl (v2 := .func (.func 53) #[] #[.pointer (some ⟨b3, 0, none⟩)]) rfl) (c_mask_Each 53 _ (fun l w' => ∃ v, Hp w w' [.row v 3 1 l.length (l.map I), .blk b3 (.cells #[v] 73 (0, 0))]) (fun _ _ => False) s _ call53 (fun l w' w'' h hb => h.imp fun v h => h.call hb) (fun l w' h => h.elim fun v h => hT.hp h) (fun l i r w' he h => h.elim fun v h => by
   have hl64 : l.length ≤ 64 := by have := lst_len s; rw [he] at this; simp at this; omega
   have hc := c_mask_List_1 w b3 v l i w' h hl64
   refine Ret.calls hc ?_
   intro u w2 hq
   exact ⟨true, hq.1, fun _ => hq.2, fun h => by cases h⟩) ⟨.slice none 0 0, hH4⟩) ?_
 rintro u w5 ⟨rfl, hor⟩
 obtain ⟨v7, hH6⟩ := hor.resolve_right (fun ⟨_, _, _, _, h⟩ => h)
 refine RL.nil ?_
 refine SR ?_
 refine V (run_ld underlying73 rfl rfl (hH6.cell (i := 1) rfl rfl)) ?_
 refine V (run_assign (by conv => lhs; whnf)) ?_
 refine RL.nil ?_
 refine CW.ret ?_
 exact outR Tryd.results32 rfl hH6 (i := 0) rfl (rfl) (rfl)

theorem c_relate_points (r : Rl) (w : World) : Calls Tryd.prog 77 #[.agg (relC r)] w (Pure (I (pts r)) w) := by
 refine enter Tryd.func77 rfl Tryd.ntmps77 rfl ?_
 have hH := Hp.start w
 refine SR ?_
 refine RL.new rfl hH (f := fun b => (.pointer (some ⟨b, 0, none⟩))) (run_box (v := .agg _) rfl) ?_
 intro b3 w1 hH2
 refine V (aV (I 0) rfl) ?_
 refine RL.nil ?_
 refine SR ?_
 refine V (fA underlying46 0 rfl sizeOf3 rfl) ?_
 refine V (run_ld underlying3 rfl rfl (hH2.cell (i := 0) rfl (relC_N _))) ?_
 refine V (run_minI rfl rfl) ?_
 refine V (run_maxI rfl rfl) ?_
 refine V (aV (I _) rfl) ?_
 refine RL.nil ?_
 refine CW.ret ?_
 refine outP1 Tryd.results77 (congrArg I ?_) hH2.below
 rfl

theorem c_relate_row (r : Rl) (i : Int) (hi : 0 ≤ i ∧ i < 64) (w : World) : Calls Tryd.prog 84 #[.agg (relC r), I i] w (Pure (U (rowR r i)) w) := by
 refine enter Tryd.func84 rfl Tryd.ntmps84 rfl ?_
 have hH := Hp.start w
 refine SR ?_
 refine RL.new rfl hH (f := fun b => (.pointer (some ⟨b, 0, none⟩))) (run_box (v := .agg _) rfl) ?_
 intro b3 w1 hH2
 refine V (aV (U 0#64) rfl) ?_
 refine RL.nil ?_
 refine CW.seq ?_
 refine CW.regionD (by kernel_rfl) hH2 ?_
 intro w4 hH5
 refine AT 0 rfl (hH5.sub sR) (fun w hS => mV (I _) rfl) ?_
 refine AT 1 rfl (hH5.sub sR) (fun w hS => fA underlying46 1 rfl sizeOf44 rfl) ?_
 refine AT 2 rfl (hH5.sub sR) (fun w hS => run_indexAddrA underlying44 sizeOf25 rfl rfl (by omega)) ?_
 refine AT 3 rfl (hH5.sub sR) (fun w hS => run_ld underlying25 rfl rfl (hS.cell (i := 0) rfl (relC_up _ (by omega)))) ?_
 refine AT 4 rfl (hH5.sub sR) (fun w hS => run_ldRel underlying46 rfl rfl rfl (hS.blk (i := 0) rfl)) ?_
 refine A1 5 ?_
 refine AO.callP rfl gnone rfl hH5 sR (c_relate_points _  _) (run_call1 call77 rfl) ?_
 intro w6 hH7
 refine A1 6 ?_
 refine AO.callP rfl gnone rfl hH7 sR (c_mask_Below _  _) (run_call1 call25 rfl) ?_
 intro w8 hH9
 refine AT 7 rfl (hH9.sub sR) (fun w hS => run_andU rfl rfl) ?_
 refine AT 8 rfl (hH9.sub sR) (fun w hS => aV (U _) rfl) ?_
 refine AD ?_
 refine CW.ret ?_
 refine outP1 Tryd.results84 (congrArg U ?_) hH9.below
 rfl

theorem c_relate_plain (r : Rl) (w : World) : Calls Tryd.prog 67 #[.agg (relC r)] w (Pure (.agg (relC (plainR r))) w) := by
 have hp := pts_bd r
 refine enter Tryd.func67 rfl Tryd.ntmps67 rfl ?_
 have hH := Hp.start w
 refine SR ?_
 refine RL.new rfl hH (f := fun b => (.pointer (some ⟨b, 0, none⟩))) (run_box (v := .agg _) rfl) ?_
 intro b3 w1 hH2
 refine RL.new rfl hH2 (f := fun b => (.pointer (some ⟨b, 0, none⟩))) (run_alloc zero_rel) ?_
 intro b6 w4 hH5
 refine RL.nil ?_
 refine SR ?_
 refine V (run_ldRel underlying46 rfl rfl rfl (hH5.blk (i := 1) rfl)) ?_
 refine RL.callP rfl hH5 (c_relate_points _  _) (run_call1 call77 rfl) ?_
 intro w7 hH8
 refine V (run_bld (vs := [(0, I _)]) rfl (built_rel _)) ?_
 refine RL.new rfl hH8 (f := fun b => (.pointer (some ⟨b, 0, none⟩))) (run_alloc zero_rel) ?_
 intro b11 w9 hH10
 refine RL.set hH10 (i := 0) rfl (run_stRel rfl rfl rfl (hH10.blk (i := 0) rfl)) ?_
 intro w12 hH13
 simp only [z0, z1] at hH13
 refine RL.nil ?_
 refine CW.seq ?_
 refine SR ?_
 refine V (fA underlying46 0 rfl sizeOf3 rfl) ?_
 refine V (run_ld underlying3 rfl rfl (hH13.cell (i := 0) rfl (relC_N _))) ?_
 refine V (mV (I 0) rfl) ?_
 refine RL.nil ?_
 refine CW.block ?_
 have hz : (⟨pts r, fun _ => 0#64⟩ : Rl).n = pts r := rfl
 refine CW.loop (G := (Int) × (Rl)) (fun (⟨k, r1⟩ : (Int) × (Rl)) s' w' => (Fr [4, 10, 11, 12, 13, 14, 15, 16, 17, 18, 19] _ s') ∧ (Hp w w' (.blk b11 (.cells (relC r1) 46 (0, 0)) :: _)) ∧ (s' 10 = I k) ∧ (0 ≤ k) ∧ (k ≤ pts r) ∧ (r1 = fillR (pts r) (fun i => rowR r i) k)) (fun (⟨k, r1⟩ : (Int) × (Rl)) => (pts r - k).toNat) ((0, ⟨pts r, fun _ => 0#64⟩)) ⟨Fr.refl _ _, hH13, rfl, (by omega), (by omega), fill_zero _ _⟩ ?_
 rintro ⟨k, r1⟩ sg14 w14 ⟨fr14, hH14, e10_14, h0, hk, hr⟩
 have e1_14 : sg14 1 = Pn _ _ := (fr14 1 rfl).trans rfl
 have e2_14 : sg14 2 = Pn _ _ := (fr14 2 rfl).trans rfl
 have e3_14 : sg14 3 = Pn _ _ := (fr14 3 rfl).trans rfl
 have e9_14 : sg14 9 = I _ := (fr14 9 rfl).trans rfl
 have hn : r1.n = pts r := by rw [hr]; rfl
 refine SR ?_
 refine V (run_lss e10_14 e9_14) ?_
 refine RL.nil ?_
 refine CW.seq ?_
 refine CW.condP rfl (fun h16 => ?_) (fun h16 => ?_)
 ·refine CW.skip ?_
  refine CW.seq ?_
  refine CW.block ?_
  refine SR ?_
  refine V (run_move e10_14) ?_
  refine V (aV (I _) rfl) ?_
  refine RL.nil ?_
  refine CW.region ?_
  refine V (mV (I _) rfl) ?_
  refine V (run_ldRel underlying46 rfl rfl e1_14 (hH14.blk (i := 2) rfl)) ?_
  refine V (mV (I _) rfl) ?_
  refine RL.callP rfl hH14 (c_relate_row _ _ (by first | assumption | omega | (dsimp only at *; omega) | exact lst_at_bd (by assumption) (by assumption) | exact low_bd (lst_at (by assumption) (by assumption))) _) (run_call2 call84 rfl rfl) ?_
  intro w17 hH18
  refine V (fA underlying46 1 rfl sizeOf44 e3_14) ?_
  refine V (run_indexAddrA underlying44 sizeOf25 rfl rfl (by first | omega | (dsimp only at *; omega))) ?_
  refine RL.set hH18 (i := 0) rfl (run_st rfl rfl (v := U _) rfl rfl rfl (hH18.blk (i := 0) rfl) (by rw [relC_size]; omega)) ?_
  intro w19 hH20
  simp only [z0, z1] at hH20
  rw [relC_put] at hH20
  refine RL.nil ?_
  refine CW.region ?_
  refine V (run_add e10_14 rfl (by omega)) ?_
  refine V (mV (I _) rfl) ?_
  refine RL.nil ?_
  refine ⟨(k + 1, _), ?_, fr14.u4.u4.u1.u1.u1, hH20, (congrArg I (by first | rfl | omega)), ?_, ?_, ?_⟩
  ·((try dsimp only); omega)
  ·omega
  ·omega
  ·rw [hr]; exact fill_put h0 (by rw [Int.toNat_of_nonneg h0])
 ·refine CW.exit (id := 0) rfl ?_
  refine SR ?_
  refine V (run_ldRel underlying46 rfl rfl e3_14 (hH14.blk (i := 0) rfl)) ?_
  refine RL.set hH14 (i := 1) rfl (run_stRel rfl e2_14 rfl (hH14.blk (i := 1) rfl)) ?_
  intro w21 hH22
  simp only [z0, z1] at hH22
  refine RL.nil ?_
  refine CW.ret ?_
  refine outC Tryd.results67 e2_14 hH22 (i := 1) rfl underlying46 rfl rfl ⟨?_, hH22.below⟩
  (rw [hr, show k = pts r by omega]; rfl)

theorem c_relate_Up (r : Rl) (s : BitVec 64) (w : World) (hT : Tab w) : Calls Tryd.prog 74 #[.agg (relC r), U s] w (Pure (U (upR r s)) w) := by
 have hp := pts_bd r
 refine enter Tryd.func74 rfl Tryd.ntmps74 rfl ?_
 have hH := Hp.start w
 refine SR ?_
 refine RL.new rfl hH (f := fun b => (.pointer (some ⟨b, 0, none⟩))) (run_box (v := .agg _) rfl) ?_
 intro b3 w1 hH2
 refine V (aV (U 0#64) rfl) ?_
 refine RL.nil ?_
 refine SR ?_
 refine V (aV (U 0#64) rfl) ?_
 refine RL.nil ?_
 refine CW.seq ?_
 refine SR ?_
 refine V (mV (U _) rfl) ?_
 refine V (run_ldRel underlying46 rfl rfl rfl (hH2.blk (i := 0) rfl)) ?_
 refine RL.callP rfl hH2 (c_relate_points _  _) (run_call1 call77 rfl) ?_
 intro w4 hH5
 refine RL.callP rfl hH5 (c_mask_Below _  _) (run_call1 call25 rfl) ?_
 intro w6 hH7
 refine V (run_andU rfl rfl) ?_
 refine RL.callR rfl hH7 (c_mask_List _  _ (hT.hp hH7)) (run_call1 call32 rfl) ?_
 intro v10 w8 hH9
 refine V (run_lenSl (hH9.sl (i := 0) rfl) rfl underlying73 rfl) ?_
 refine V (mV (I 0) rfl) ?_
 refine RL.nil ?_
 refine CW.block ?_
 have hl := lst_len (s &&& below (pts r))
 refine CW.loop (G := (Int)) (fun (k : Int) s' w' => (Fr [5, 7, 15, 16, 17, 18, 19, 20, 21, 22, 23, 24] _ s') ∧ (Hp w w' _) ∧ (s' 5 = U (orAll (rowR r) ((lst (s &&& below (pts r))).take k.toNat))) ∧ (s' 15 = I k) ∧ (0 ≤ k) ∧ (k ≤ (lst (s &&& below (pts r))).length)) (fun (k : Int) => ((lst (s &&& below (pts r))).length - k).toNat) (0) ⟨Fr.refl _ _, hH9, (congrArg U (by simp [orAll])), rfl, (by omega), (by omega)⟩ ?_
 rintro k sg11 w11 ⟨fr11, hH11, e5_11, e15_11, h0, hk⟩
 have e2_11 : sg11 2 = Pn _ _ := (fr11 2 rfl).trans rfl
 have e4_11 : sg11 4 = U _ := (fr11 4 rfl).trans rfl
 have e13_11 := (fr11 13 rfl).trans (by conv => lhs; whnf)
 have e14_11 : sg11 14 = I _ := (fr11 14 rfl).trans rfl
 refine SR ?_
 refine V (run_lss e15_11 e14_11) ?_
 refine RL.nil ?_
 refine CW.seq ?_
 refine CW.condP rfl (fun h13 => ?_) (fun h13 => ?_)
 ·refine CW.skip ?_
  refine CW.seq ?_
  refine CW.block ?_
  refine SR ?_
  refine V (run_indexAddrS (hH11.sl (i := 0) rfl) underlying73 sizeOf3 e13_11 e15_11 (by omega)) ?_
  refine V (run_ld underlying3 rfl rfl ((hH11.sl (i := 0) rfl).cell _ _ (map_at (by omega)))) ?_
  refine V (aV (I _) rfl) ?_
  refine RL.nil ?_
  refine CW.region ?_
  refine V (run_move e5_11) ?_
  refine V (run_ldRel underlying46 rfl rfl e2_11 (hH11.blk (i := 1) rfl)) ?_
  refine V (mV (I _) rfl) ?_
  refine RL.callP rfl hH11 (c_relate_row _ _ (by first | assumption | omega | (dsimp only at *; omega) | exact lst_at_bd (by assumption) (by assumption) | exact low_bd (lst_at (by assumption) (by assumption))) _) (run_call2 call84 rfl rfl) ?_
  intro w14 hH15
  refine V (run_orU rfl rfl) ?_
  refine V (aV (U _) rfl) ?_
  refine RL.nil ?_
  refine CW.region ?_
  refine V (run_add e15_11 rfl (by omega)) ?_
  refine V (mV (I _) rfl) ?_
  refine RL.nil ?_
  refine ⟨k + 1, ?_, fr11.u4.u4.u4, hH15, (congrArg U (orAll_next h0 ‹_›)), (congrArg I (by first | rfl | omega)), ?_, ?_⟩
  ·((try dsimp only); omega)
  ·omega
  ·omega
 ·refine CW.exit (id := 0) rfl ?_
  refine SR ?_
  refine V (run_move e5_11) ?_
  refine V (aV (U _) rfl) ?_
  refine RL.nil ?_
  refine CW.ret ?_
  refine outP1 Tryd.results74 (congrArg U ?_) hH11.below
  (rw [take_all ‹_›]; rfl)

theorem c_relate_Down (r : Rl) (s : BitVec 64) (w : World) : Calls Tryd.prog 76 #[.agg (relC r), U s] w (Pure (U (downR r s)) w) := by
 have hp := pts_bd r
 refine enter Tryd.func76 rfl Tryd.ntmps76 rfl ?_
 have hH := Hp.start w
 refine SR ?_
 refine RL.new rfl hH (f := fun b => (.pointer (some ⟨b, 0, none⟩))) (run_box (v := .agg _) rfl) ?_
 intro b3 w1 hH2
 refine V (aV (U 0#64) rfl) ?_
 refine RL.nil ?_
 refine SR ?_
 refine V (aV (U 0#64) rfl) ?_
 refine RL.nil ?_
 refine CW.seq ?_
 refine SR ?_
 refine V (run_ldRel underlying46 rfl rfl rfl (hH2.blk (i := 0) rfl)) ?_
 refine RL.callP rfl hH2 (c_relate_points _  _) (run_call1 call77 rfl) ?_
 intro w4 hH5
 refine V (mV (I 0) rfl) ?_
 refine RL.nil ?_
 refine CW.block ?_
 refine CW.loop (G := (Int)) (fun (k : Int) s' w' => (Fr [5, 6, 9, 10, 11, 12, 13, 14, 15, 16, 17, 18, 19, 20, 21] _ s') ∧ (Hp w w' _) ∧ (s' 5 = U (downTo r s k)) ∧ (s' 9 = I k) ∧ (0 ≤ k) ∧ (k ≤ pts r)) (fun (k : Int) => (pts r - k).toNat) (0) ⟨Fr.refl _ _, hH5, (congrArg U (by simp [downTo, bitsTo])), rfl, (by omega), (by omega)⟩ ?_
 rintro k sg6 w6 ⟨fr6, hH6, e5_6, e9_6, h0, hk⟩
 have e1_6 : sg6 1 = U _ := (fr6 1 rfl).trans rfl
 have e2_6 : sg6 2 = Pn _ _ := (fr6 2 rfl).trans rfl
 have e4_6 : sg6 4 = U _ := (fr6 4 rfl).trans rfl
 have e8_6 : sg6 8 = I _ := (fr6 8 rfl).trans rfl
 refine SR ?_
 refine V (run_lss e9_6 e8_6) ?_
 refine RL.nil ?_
 refine CW.seq ?_
 refine CW.condP rfl (fun h8 => ?_) (fun h8 => ?_)
 ·refine CW.skip ?_
  refine CW.seq ?_
  refine CW.block ?_
  refine SR ?_
  refine V (run_move e9_6) ?_
  refine V (aV (I _) rfl) ?_
  refine RL.nil ?_
  refine SR ?_
  refine V (run_ldRel underlying46 rfl rfl e2_6 (hH6.blk (i := 0) rfl)) ?_
  refine V (mV (I _) rfl) ?_
  refine RL.callP rfl hH6 (c_relate_row _ _ (by first | assumption | omega | (dsimp only at *; omega) | exact lst_at_bd (by assumption) (by assumption) | exact low_bd (lst_at (by assumption) (by assumption))) _) (run_call2 call84 rfl rfl) ?_
  intro w9 hH10
  refine V (run_move e1_6) ?_
  refine V (run_andU rfl rfl) ?_
  refine V (run_neqU rfl (b := 0#64) rfl) ?_
  refine RL.nil ?_
  refine CW.condP rfl (fun h12 => ?_) (fun h12 => ?_)
  ·refine CW.region ?_
   refine V (run_move e5_6) ?_
   refine V (mV (I _) rfl) ?_
   refine RL.callP rfl hH10 (c_mask_With _ _  _) (run_call2 call55 rfl rfl) ?_
   intro w13 hH14
   refine V (aV (U _) rfl) ?_
   refine RL.nil ?_
   refine CW.region ?_
   refine V (run_add e9_6 rfl (by omega)) ?_
   refine V (mV (I _) rfl) ?_
   refine RL.nil ?_
   refine ⟨k + 1, ?_, fr6.u4.u4.u4.u1.u1.u1, hH14, (congrArg U (by first | exact down_yes h0 (by omega) ‹_› | exact down_not h0 ‹_›)), (congrArg I (by first | rfl | omega)), ?_, ?_⟩
   ·((try dsimp only); omega)
   ·omega
   ·omega
  ·refine CW.skip ?_
   refine CW.region ?_
   refine V (run_add e9_6 rfl (by omega)) ?_
   refine V (mV (I _) rfl) ?_
   refine RL.nil ?_
   refine ⟨k + 1, ?_, fr6.u4.u4.u1.u1.u1, hH10, (Eq.trans e5_6 (congrArg U (by first | exact down_yes h0 (by omega) ‹_› | exact down_not h0 ‹_›))), (congrArg I (by first | rfl | omega)), ?_, ?_⟩
   ·((try dsimp only); omega)
   ·omega
   ·omega
 ·refine CW.exit (id := 0) rfl ?_
  refine SR ?_
  refine V (run_move e5_6) ?_
  refine V (aV (U _) rfl) ?_
  refine RL.nil ?_
  refine CW.ret ?_
  refine outP1 Tryd.results76 (congrArg U ?_) hH6.below
  (rw [show k = pts r by omega]; rfl)

theorem c_relate_Closure (r : Rl) (w : World) : Calls Tryd.prog 85 #[.agg (relC r)] w (Pure (.agg (relC (cloR r))) w) := by
 have hp := pts_bd r
 have hn0 : (plainR r).n = pts r := rfl
 refine enter Tryd.func85 rfl Tryd.ntmps85 rfl ?_
 have hH := Hp.start w
 refine SR ?_
 refine RL.new rfl hH (f := fun b => (.pointer (some ⟨b, 0, none⟩))) (run_box (v := .agg _) rfl) ?_
 intro b3 w1 hH2
 refine RL.new rfl hH2 (f := fun b => (.pointer (some ⟨b, 0, none⟩))) (run_alloc zero_rel) ?_
 intro b6 w4 hH5
 refine RL.nil ?_
 refine SR ?_
 refine V (run_ldRel underlying46 rfl rfl rfl (hH5.blk (i := 1) rfl)) ?_
 refine RL.callP rfl hH5 (c_relate_plain _  _) (run_call1 call67 rfl) ?_
 intro w7 hH8
 refine RL.new rfl hH8 (f := fun b => (.pointer (some ⟨b, 0, none⟩))) (run_alloc zero_rel) ?_
 intro b11 w9 hH10
 refine RL.set hH10 (i := 0) rfl (run_stRel rfl rfl rfl (hH10.blk (i := 0) rfl)) ?_
 intro w12 hH13
 simp only [z0, z1] at hH13
 refine RL.nil ?_
 refine CW.seq ?_
 refine SR ?_
 refine V (fA underlying46 0 rfl sizeOf3 rfl) ?_
 refine V (run_ld underlying3 rfl rfl (hH13.cell (i := 0) rfl (relC_N _))) ?_
 refine V (mV (I 0) rfl) ?_
 refine RL.nil ?_
 refine CW.block ?_
 refine CW.loop (G := (Int) × (Rl)) (fun (⟨k, r1⟩ : (Int) × (Rl)) s' w' => (Fr [4, 11, 12, 13, 14, 15, 16, 17, 18, 19, 20, 21, 22, 23] _ s') ∧ (Hp w w' (.blk b11 (.cells (relC r1) 46 (0, 0)) :: _)) ∧ (s' 11 = I k) ∧ (0 ≤ k) ∧ (k ≤ pts r) ∧ (r1 = ⟨pts r, selfTo (plainR r).up k⟩)) (fun (⟨k, r1⟩ : (Int) × (Rl)) => (pts r - k).toNat) ((0, plainR r)) ⟨Fr.refl _ _, hH13, rfl, (by omega), (by omega), self_zero _ _⟩ ?_
 rintro ⟨k, r1⟩ sg14 w14 ⟨fr14, hH14, e11_14, h0, hk, hr⟩
 have e2_14 : sg14 2 = Pn _ _ := (fr14 2 rfl).trans rfl
 have e3_14 : sg14 3 = Pn _ _ := (fr14 3 rfl).trans rfl
 have e10_14 : sg14 10 = I _ := (fr14 10 rfl).trans rfl
 have hn : r1.n = pts r := by rw [hr]
 refine SR ?_
 refine V (run_lss e11_14 e10_14) ?_
 refine RL.nil ?_
 refine CW.seq ?_
 refine CW.condP rfl (fun h16 => ?_) (fun h16 => ?_)
 ·refine CW.skip ?_
  refine CW.seq ?_
  refine CW.block ?_
  refine SR ?_
  refine V (run_move e11_14) ?_
  refine V (aV (I _) rfl) ?_
  refine RL.nil ?_
  refine CW.region ?_
  refine V (mV (I _) rfl) ?_
  refine V (mV (I _) rfl) ?_
  refine V (fA underlying46 1 rfl sizeOf44 e3_14) ?_
  refine V (run_indexAddrA underlying44 sizeOf25 rfl rfl (by first | omega | (dsimp only at *; omega))) ?_
  refine V (run_ld underlying25 rfl rfl (hH14.cell (i := 0) rfl (relC_up _ (by omega)))) ?_
  refine V (mV (I _) rfl) ?_
  refine RL.callP rfl hH14 (c_mask_With _ _  _) (run_call2 call55 rfl rfl) ?_
  intro w17 hH18
  refine V (fA underlying46 1 rfl sizeOf44 e3_14) ?_
  refine V (run_indexAddrA underlying44 sizeOf25 rfl rfl (by first | omega | (dsimp only at *; omega))) ?_
  refine RL.set hH18 (i := 0) rfl (run_st rfl rfl (v := U _) rfl rfl rfl (hH18.blk (i := 0) rfl) (by rw [relC_size]; omega)) ?_
  intro w19 hH20
  simp only [z0, z1] at hH20
  rw [relC_put] at hH20
  refine RL.nil ?_
  refine CW.region ?_
  refine V (run_add e11_14 rfl (by omega)) ?_
  refine V (mV (I _) rfl) ?_
  refine RL.nil ?_
  refine ⟨(k + 1, _), ?_, fr14.u4.u4.u4.u1.u1, hH20, (congrArg I (by first | rfl | omega)), ?_, ?_, ?_⟩
  ·((try dsimp only); omega)
  ·omega
  ·omega
  ·rw [hr]; exact self_put h0
 ·refine CW.exit (id := 0) rfl ?_
  refine CW.seq ?_
  refine SR ?_
  refine V (fA underlying46 0 rfl sizeOf3 e3_14) ?_
  refine V (run_ld underlying3 rfl rfl (hH14.cell (i := 0) rfl (relC_N _))) ?_
  refine V (mV (I 0) rfl) ?_
  refine RL.nil ?_
  refine CW.block ?_
  refine CW.loop (G := (Int) × (Rl)) (fun (⟨m, r2⟩ : (Int) × (Rl)) s' w' => (Fr [5, 6, 26, 27, 28, 29, 30, 31, 32, 33, 34, 35, 36, 37, 38, 39, 40, 41, 42, 43, 44, 45, 46, 47, 48, 49, 50, 51, 52] _ s') ∧ (Hp w w' (.blk b11 (.cells (relC r2) 46 (0, 0)) :: _)) ∧ (s' 26 = I m) ∧ (0 ≤ m) ∧ (m ≤ pts r) ∧ (r2 = ⟨pts r, wall (pts r) (selfTo (plainR r).up (pts r)) m.toNat⟩)) (fun (⟨m, r2⟩ : (Int) × (Rl)) => (pts r - m).toNat) ((0, r1)) ⟨Fr.refl _ _, hH14, rfl, (by omega), (by omega), (by rw [hr, show k = pts r by omega]; rfl)⟩ ?_
  rintro ⟨m, r2⟩ sg21 w21 ⟨fr21, hH21, e26_21, m0, m1, hr2⟩
  have e2_21 := (fr21 2 rfl).trans e2_14
  have e3_21 := (fr21 3 rfl).trans e3_14
  have e25_21 : sg21 25 = I _ := (fr21 25 rfl).trans rfl
  have hn2 : r2.n = pts r := by rw [hr2]
  refine SR ?_
  refine V (run_lss e26_21 e25_21) ?_
  refine RL.nil ?_
  refine CW.seq ?_
  refine CW.condP rfl (fun h23 => ?_) (fun h23 => ?_)
  ·refine CW.skip ?_
   refine CW.seq ?_
   refine CW.block ?_
   refine SR ?_
   refine V (run_move e26_21) ?_
   refine V (aV (I _) rfl) ?_
   refine RL.nil ?_
   refine SR ?_
   refine V (fA underlying46 0 rfl sizeOf3 e3_21) ?_
   refine V (run_ld underlying3 rfl rfl (hH21.cell (i := 0) rfl (relC_N _))) ?_
   refine V (mV (I 0) rfl) ?_
   refine RL.nil ?_
   refine CW.block ?_
   refine CW.loop (G := (Int) × (Rl)) (fun (⟨i, r3⟩ : (Int) × (Rl)) s' w' => (Fr [6, 31, 32, 33, 34, 35, 36, 37, 38, 39, 40, 41, 42, 43, 44, 45, 46, 47, 48, 49, 50, 51] _ s') ∧ (Hp w w' (.blk b11 (.cells (relC r3) 46 (0, 0)) :: _)) ∧ (s' 31 = I i) ∧ (0 ≤ i) ∧ (i ≤ pts r) ∧ (r3 = ⟨pts r, passTo m.toNat i r2.up⟩)) (fun (⟨i, r3⟩ : (Int) × (Rl)) => (pts r - i).toNat) ((0, r2)) ⟨Fr.refl _ _, hH21, rfl, (by omega), (by omega), (by rw [hr2]; exact pass_zero _ _ _)⟩ ?_
   rintro ⟨i, r3⟩ sg24 w24 ⟨fr24, hH24, e31_24, i0, i1, hr3⟩
   have e2_24 := (fr24 2 rfl).trans e2_21
   have e3_24 := (fr24 3 rfl).trans e3_21
   have e5_24 : sg24 5 = I _ := (fr24 5 rfl).trans rfl
   have e25_24 := (fr24 25 rfl).trans e25_21
   have e26_24 := (fr24 26 rfl).trans e26_21
   have e27_24 : sg24 27 = B _ := (fr24 27 rfl).trans rfl
   have e28_24 : sg24 28 = I _ := (fr24 28 rfl).trans rfl
   have e29_24 : sg24 29 = Pn _ _ := (fr24 29 rfl).trans rfl
   have e30_24 : sg24 30 = I _ := (fr24 30 rfl).trans rfl
   have hn3 : r3.n = pts r := by rw [hr3]
   refine SR ?_
   refine V (run_lss e31_24 e30_24) ?_
   refine RL.nil ?_
   refine CW.seq ?_
   refine CW.condP rfl (fun h26 => ?_) (fun h26 => ?_)
   ·refine CW.skip ?_
    refine CW.seq ?_
    refine CW.block ?_
    refine SR ?_
    refine V (run_move e31_24) ?_
    refine V (aV (I _) rfl) ?_
    refine RL.nil ?_
    refine SR ?_
    refine V (mV (I _) rfl) ?_
    refine V (fA underlying46 1 rfl sizeOf44 e3_24) ?_
    refine V (run_indexAddrA underlying44 sizeOf25 rfl rfl (by first | omega | (dsimp only at *; omega))) ?_
    refine V (run_ld underlying25 rfl rfl (hH24.cell (i := 0) rfl (relC_up _ (by omega)))) ?_
    refine V (run_move e5_24) ?_
    refine RL.callP rfl hH24 (c_mask_Has _ _  _) (run_call2 call90 rfl rfl) ?_
    intro w27 hH28
    refine RL.nil ?_
    refine CW.cond rfl (fun h30 => ?_) (fun h30 => ?_)
    ·refine CW.regionS (by kernel_rfl) hH28 (sQ sR) ?_
     intro w31 hH32
     refine AT 0 rfl (hH32.sub (sQ sR)) (fun w hS => mV (I _) rfl) ?_
     refine AT 1 rfl (hH32.sub (sQ sR)) (fun w hS => fA underlying46 1 rfl sizeOf44 e3_24) ?_
     refine AT 2 rfl (hH32.sub (sQ sR)) (fun w hS => run_indexAddrA underlying44 sizeOf25 rfl rfl (by first | omega | (dsimp only at *; omega))) ?_
     refine AT 4 rfl (hH32.sub (sQ sR)) (fun w hS => run_move e5_24) ?_
     refine AT 5 rfl (hH32.sub (sQ sR)) (fun w hS => fA underlying46 1 rfl sizeOf44 e3_24) ?_
     refine AT 6 rfl (hH32.sub (sQ sR)) (fun w hS => run_indexAddrA underlying44 sizeOf25 rfl rfl (by first | omega | (dsimp only at *; omega))) ?_
     refine AT 9 rfl (hH32.sub (sQ sR)) (fun w hS => fA underlying46 1 rfl sizeOf44 e3_24) ?_
     refine AN.two 3 7 (by kernel_rfl) ?_ ?_
     ·refine AO.read rfl gnone rfl hH32 (sQ sR) (run_ld underlying25 rfl rfl (hH32.cell (i := 0) rfl (relC_up _ (by omega)))) ?_
      refine A1 7 ?_
      refine AO.read rfl gnone rfl hH32 (sQ sR) (run_ld underlying25 rfl rfl (hH32.cell (i := 0) rfl (relC_up _ (by omega)))) ?_
      refine AT 8 rfl (hH32.sub (sQ sR)) (fun w hS => run_orU rfl rfl) ?_
      refine AT 10 rfl (hH32.sub (sQ sR)) (fun w hS => run_indexAddrA underlying44 sizeOf25 rfl rfl (by first | omega | (dsimp only at *; omega))) ?_
      refine A1 11 ?_
      refine AO.set rfl gnone hH32 (j := 0) rfl (sQ sR) (run_st rfl rfl (v := U _) rfl rfl rfl (hH32.blk (i := 0) rfl) (by rw [relC_size]; omega)) ?_
      intro w39 hH40
      simp only [z0, z1] at hH40
      rw [relC_put] at hH40
      refine AD ?_
      refine CW.region ?_
      refine V (run_add e31_24 rfl (by omega)) ?_
      refine V (mV (I _) rfl) ?_
      refine RL.nil ?_
      refine ⟨(i + 1, _), ?_, fr24.u4.u4.u4.u4.u4.u1.u1, hH40, (congrArg I (by first | rfl | omega)), ?_, ?_, ?_⟩
      ·((try dsimp only); omega)
      ·omega
      ·omega
      ·first | (rw [hr3] at *; exact pass_yes m0 i0 ‹_›) | (rw [hr3] at *; exact pass_not ⟨m0, by omega⟩ i0 ‹_›)
     ·refine AO.read rfl gnone rfl hH32 (sQ sR) (run_ld underlying25 rfl rfl (hH32.cell (i := 0) rfl (relC_up _ (by omega)))) ?_
      refine A1 3 ?_
      refine AO.read rfl gnone rfl hH32 (sQ sR) (run_ld underlying25 rfl rfl (hH32.cell (i := 0) rfl (relC_up _ (by omega)))) ?_
      refine AT 8 rfl (hH32.sub (sQ sR)) (fun w hS => run_orU rfl rfl) ?_
      refine AT 10 rfl (hH32.sub (sQ sR)) (fun w hS => run_indexAddrA underlying44 sizeOf25 rfl rfl (by first | omega | (dsimp only at *; omega))) ?_
      refine A1 11 ?_
      refine AO.set rfl gnone hH32 (j := 0) rfl (sQ sR) (run_st rfl rfl (v := U _) rfl rfl rfl (hH32.blk (i := 0) rfl) (by rw [relC_size]; omega)) ?_
      intro w47 hH48
      simp only [z0, z1] at hH48
      rw [relC_put] at hH48
      refine AD ?_
      refine CW.region ?_
      refine V (run_add e31_24 rfl (by omega)) ?_
      refine V (mV (I _) rfl) ?_
      refine RL.nil ?_
      refine ⟨(i + 1, _), ?_, fr24.u4.u4.u4.u4.u4.u1.u1, hH48, (congrArg I (by first | rfl | omega)), ?_, ?_, ?_⟩
      ·((try dsimp only); omega)
      ·omega
      ·omega
      ·first | (rw [hr3] at *; exact pass_yes m0 i0 ‹_›) | (rw [hr3] at *; exact pass_not ⟨m0, by omega⟩ i0 ‹_›)
    ·refine CW.skip ?_
     refine CW.region ?_
     refine V (run_add e31_24 rfl (by omega)) ?_
     refine V (mV (I _) rfl) ?_
     refine RL.nil ?_
     refine ⟨(i + 1, _), ?_, fr24.u4.u4.u1.u1.u1, hH28, (congrArg I (by first | rfl | omega)), ?_, ?_, ?_⟩
     ·((try dsimp only); omega)
     ·omega
     ·omega
     ·first | (rw [hr3] at *; exact pass_yes m0 i0 ‹_›) | (rw [hr3] at *; exact pass_not ⟨m0, by omega⟩ i0 ‹_›)
   ·refine CW.exit (id := 4) rfl ?_
    refine CW.region ?_
    refine V (run_add e26_24 rfl (by omega)) ?_
    refine V (mV (I _) rfl) ?_
    refine RL.nil ?_
    refine ⟨(m + 1, _), ?_, (((fr21.u4.u1.u1).t fr24 rfl)).u1.u1.u1, hH24, (congrArg I (by first | rfl | omega)), ?_, ?_, ?_⟩
    ·((try dsimp only); omega)
    ·omega
    ·omega
    ·rw [hr3, hr2, show i = pts r by omega]; exact wall_next m0
  ·refine CW.exit (id := 2) rfl ?_
   refine SR ?_
   refine V (run_ldRel underlying46 rfl rfl e3_21 (hH21.blk (i := 0) rfl)) ?_
   refine RL.set hH21 (i := 1) rfl (run_stRel rfl e2_21 rfl (hH21.blk (i := 1) rfl)) ?_
   intro w49 hH50
   simp only [z0, z1] at hH50
   refine RL.nil ?_
   refine CW.ret ?_
   refine outC Tryd.results85 e2_21 hH50 (i := 1) rfl underlying46 rfl rfl ⟨?_, hH50.below⟩
   (rw [hr2, show m = pts r by omega]; rfl)

theorem c_relate_Same (a b : Rl) (w : World) : Calls Tryd.prog 46 #[.agg (relC a), .agg (relC b)] w (Pure (B (decide ((plainR a).eq (plainR b)))) w) := by
 refine enter Tryd.func46 rfl Tryd.ntmps46 rfl ?_
 have hH := Hp.start w
 refine SR ?_
 refine RL.new rfl hH (f := fun b => (.pointer (some ⟨b, 0, none⟩))) (run_box (v := .agg _) rfl) ?_
 intro b3 w1 hH2
 refine RL.new rfl hH2 (f := fun b => (.pointer (some ⟨b, 0, none⟩))) (run_box (v := .agg _) rfl) ?_
 intro b6 w4 hH5
 refine V (aV (B false) rfl) ?_
 refine RL.nil ?_
 refine CW.seq ?_
 refine CW.regionD (by kernel_rfl) hH5 ?_
 intro w7 hH8
 refine AT 0 rfl (hH8.sub sR) (fun w hS => run_ldRel underlying46 rfl rfl rfl (hS.blk (i := 1) rfl)) ?_
 refine AT 2 rfl (hH8.sub sR) (fun w hS => run_ldRel underlying46 rfl rfl rfl (hS.blk (i := 0) rfl)) ?_
 refine A1 1 ?_
 refine AO.callP rfl gnone rfl hH8 sR (c_relate_plain _  _) (run_call1 call67 rfl) ?_
 intro w9 hH10
 refine A1 3 ?_
 refine AO.callP rfl gnone rfl hH10 sR (c_relate_plain _  _) (run_call1 call67 rfl) ?_
 intro w11 hH12
 refine AT 4 rfl (hH12.sub sR) (fun w hS => run_eqlRel relT_fact rfl rfl) ?_
 refine AT 5 rfl (hH12.sub sR) (fun w hS => aV (B _) rfl) ?_
 refine AD ?_
 refine CW.ret ?_
 refine outP1 Tryd.results46 (congrArg B ?_) hH12.below
 rfl

theorem c_relate_Closed (r : Rl) (w : World) : Calls Tryd.prog 68 #[.agg (relC r)] w (Pure (B (decide ((plainR r).eq (cloR r)))) w) := by
 refine enter Tryd.func68 rfl Tryd.ntmps68 rfl ?_
 have hH := Hp.start w
 refine SR ?_
 refine RL.new rfl hH (f := fun b => (.pointer (some ⟨b, 0, none⟩))) (run_box (v := .agg _) rfl) ?_
 intro b3 w1 hH2
 refine V (aV (B false) rfl) ?_
 refine RL.nil ?_
 refine CW.seq ?_
 refine CW.regionD (by kernel_rfl) hH2 ?_
 intro w4 hH5
 refine AT 0 rfl (hH5.sub sR) (fun w hS => run_ldRel underlying46 rfl rfl rfl (hS.blk (i := 0) rfl)) ?_
 refine AT 2 rfl (hH5.sub sR) (fun w hS => run_ldRel underlying46 rfl rfl rfl (hS.blk (i := 0) rfl)) ?_
 refine A1 1 ?_
 refine AO.callP rfl gnone rfl hH5 sR (c_relate_plain _  _) (run_call1 call67 rfl) ?_
 intro w6 hH7
 refine A1 3 ?_
 refine AO.callP rfl gnone rfl hH7 sR (c_relate_Closure _  _) (run_call1 call85 rfl) ?_
 intro w8 hH9
 refine AT 4 rfl (hH9.sub sR) (fun w hS => run_eqlRel relT_fact rfl rfl) ?_
 refine AT 5 rfl (hH9.sub sR) (fun w hS => aV (B _) rfl) ?_
 refine AD ?_
 refine CW.ret ?_
 refine outP1 Tryd.results68 (congrArg B ?_) hH9.below
 rfl

theorem c_relate_New (n : Int) (w : World) : Calls Tryd.prog 50 #[I n] w (Pure (.agg (relC (newR n))) w) := by
 refine enter Tryd.func50 rfl Tryd.ntmps50 rfl ?_
 have hH := Hp.start w
 refine SR ?_
 refine RL.new rfl hH (f := fun b => (.pointer (some ⟨b, 0, none⟩))) (run_alloc zero_rel) ?_
 intro b3 w1 hH2
 refine RL.nil ?_
 refine SR ?_
 refine V (mV (I _) rfl) ?_
 refine V (run_bld (vs := [(0, I _)]) rfl (built_rel _)) ?_
 refine RL.callP rfl hH2 (c_relate_points _  _) (run_call1 call77 rfl) ?_
 intro w4 hH5
 refine V (run_bld (vs := [(0, I _)]) rfl (built_rel _)) ?_
 refine RL.set hH5 (i := 0) rfl (run_stRel rfl rfl rfl (hH5.blk (i := 0) rfl)) ?_
 intro w6 hH7
 simp only [z0, z1] at hH7
 refine RL.nil ?_
 refine CW.ret ?_
 refine outC Tryd.results50 rfl hH7 (i := 0) rfl underlying46 rfl rfl ⟨?_, hH7.below⟩
 rfl

theorem c_relate_mutual (r : Rl) (i : Int) (w : World) (hT : Tab w) : Calls Tryd.prog 86 #[.agg (relC r), I i] w (Pure (U (mutualR r i)) w) := by
 refine enter Tryd.func86 rfl Tryd.ntmps86 rfl ?_
 have hH := Hp.start w
 refine SR ?_
 refine RL.new rfl hH (f := fun b => (.pointer (some ⟨b, 0, none⟩))) (run_box (v := .agg _) rfl) ?_
 intro b3 w1 hH2
 refine V (aV (U 0#64) rfl) ?_
 refine RL.nil ?_
 refine SR ?_
 refine V (mV (I _) rfl) ?_
 refine RL.new rfl hH2 (f := fun b => (.slice (some ⟨b, 0, none⟩) 1 1)) (run_mkL underlying73 rfl rfl (sz := 1) (vs := [I _]) rfl rfl (by decide) (by decide) rfl rfl) ?_
 intro b6 w4 hH5
 (try simp only [List.flatMap_cons, List.flatMap_nil, clI, clB, clS, clP, clL, clA, List.append_nil, List.cons_append, List.nil_append] at hH5)
 refine RL.callP rfl hH5 (c_mask_Of _ [i] _ (hH5.slBlk (i := 0) (n := 1) (sz := 1) rfl rfl (by decide))) (run_call1 call75 rfl) ?_
 intro w7 hH8
 refine V (aV (U _) rfl) ?_
 refine RL.nil ?_
 refine CW.seq ?_
 refine CW.regionD (by kernel_rfl) hH8 ?_
 intro w9 hH10
 refine AT 0 rfl (hH10.sub sR) (fun w hS => run_ldRel underlying46 rfl rfl rfl (hS.blk (i := 1) rfl)) ?_
 refine AT 1 rfl (hH10.sub sR) (fun w hS => mV (U _) rfl) ?_
 refine AT 3 rfl (hH10.sub sR) (fun w hS => run_ldRel underlying46 rfl rfl rfl (hS.blk (i := 1) rfl)) ?_
 refine AT 4 rfl (hH10.sub sR) (fun w hS => mV (U _) rfl) ?_
 refine A1 2 ?_
 refine AO.callP rfl gnone rfl hH10 sR (c_relate_Up _ _  _ (hT.hp hH10)) (run_call2 call74 rfl rfl) ?_
 intro w11 hH12
 refine A1 5 ?_
 refine AO.callP rfl gnone rfl hH12 sR (c_relate_Down _ _  _) (run_call2 call76 rfl rfl) ?_
 intro w13 hH14
 refine AT 6 rfl (hH14.sub sR) (fun w hS => run_andU rfl rfl) ?_
 refine AT 7 rfl (hH14.sub sR) (fun w hS => aV (U _) rfl) ?_
 refine AD ?_
 refine CW.ret ?_
 refine outP1 Tryd.results86 (congrArg U ?_) hH14.below
 rfl

theorem c_relate_Order (r : Rl) (w : World) (hT : Tab w) : Calls Tryd.prog 69 #[.agg (relC r)] w (Pure (B (orderB r)) w) := by
 have hp := pts_bd r
 refine enter Tryd.func69 rfl Tryd.ntmps69 rfl ?_
 have hH := Hp.start w
 refine SR ?_
 refine RL.new rfl hH (f := fun b => (.pointer (some ⟨b, 0, none⟩))) (run_box (v := .agg _) rfl) ?_
 intro b3 w1 hH2
 refine V (aV (B false) rfl) ?_
 refine RL.nil ?_
 refine CW.seq ?_
 refine SR ?_
 refine V (run_ldRel underlying46 rfl rfl rfl (hH2.blk (i := 0) rfl)) ?_
 refine RL.callP rfl hH2 (c_relate_Closed _  _) (run_call1 call68 rfl) ?_
 intro w4 hH5
 refine V (run_notP rfl) ?_
 refine RL.nil ?_
 refine CW.condP rfl (fun h9 => ?_) (fun h9 => ?_)
 ·refine SR ?_
  refine V (aV (B false) rfl) ?_
  refine RL.nil ?_
  refine CW.ret ?_
  refine outP1 Tryd.results69 (congrArg B ?_) hH5.below
  exact (order_no0 ‹_›).symm
 ·refine CW.skip ?_
  refine CW.seq ?_
  refine SR ?_
  refine V (run_ldRel underlying46 rfl rfl rfl (hH5.blk (i := 0) rfl)) ?_
  refine RL.callP rfl hH5 (c_relate_points _  _) (run_call1 call77 rfl) ?_
  intro w10 hH11
  refine V (mV (I 0) rfl) ?_
  refine RL.nil ?_
  refine CW.block ?_
  have hc := Decidable.of_not_not ‹¬ ¬ (plainR r).eq (cloR r)›
  refine CW.loop (G := (Int)) (fun (k : Int) s' w' => (Fr [2, 3, 9, 10, 11, 12, 13, 14, 15, 16, 17, 18, 19] _ s') ∧ (Hp w w' _) ∧ (s' 9 = I k) ∧ (0 ≤ k) ∧ (k ≤ pts r) ∧ (∀ j : Int, 0 ≤ j → j < k → mutualR r j = ofl [j])) (fun (k : Int) => (pts r - k).toNat) (0) ⟨Fr.refl _ _, hH11, rfl, (by omega), (by omega), fun j a b => absurd b (by omega)⟩ ?_
  rintro k sg12 w12 ⟨fr12, hH12, e9_12, h0, hk, hf⟩
  have e1_12 : sg12 1 = Pn _ _ := (fr12 1 rfl).trans rfl
  have e8_12 : sg12 8 = I _ := (fr12 8 rfl).trans rfl
  refine SR ?_
  refine V (run_lss e9_12 e8_12) ?_
  refine RL.nil ?_
  refine CW.seq ?_
  refine CW.condP rfl (fun h14 => ?_) (fun h14 => ?_)
  ·refine CW.skip ?_
   refine CW.seq ?_
   refine CW.block ?_
   refine SR ?_
   refine V (run_move e9_12) ?_
   refine V (aV (I _) rfl) ?_
   refine RL.nil ?_
   refine SR ?_
   refine V (run_ldRel underlying46 rfl rfl e1_12 (hH12.blk (i := 0) rfl)) ?_
   refine V (mV (I _) rfl) ?_
   refine RL.callP rfl hH12 (c_relate_mutual _ _  _ (hT.hp hH12)) (run_call2 call86 rfl rfl) ?_
   intro w15 hH16
   refine V (mV (I _) rfl) ?_
   refine RL.new rfl hH16 (f := fun b => (.slice (some ⟨b, 0, none⟩) 1 1)) (run_mkL underlying73 rfl rfl (sz := 1) (vs := [I _]) rfl rfl (by decide) (by decide) rfl rfl) ?_
   intro b19 w17 hH18
   (try simp only [List.flatMap_cons, List.flatMap_nil, clI, clB, clS, clP, clL, clA, List.append_nil, List.cons_append, List.nil_append] at hH18)
   refine RL.callP rfl hH18 (c_mask_Of _ [k] _ (hH18.slBlk (i := 0) (n := 1) (sz := 1) rfl rfl (by decide))) (run_call1 call75 rfl) ?_
   intro w20 hH21
   refine V (run_neqU rfl rfl) ?_
   refine RL.nil ?_
   refine CW.condP rfl (fun h23 => ?_) (fun h23 => ?_)
   ·refine SR ?_
    refine V (aV (B false) rfl) ?_
    refine RL.nil ?_
    refine CW.ret ?_
    refine outP1 Tryd.results69 (congrArg B ?_) hH21.below
    exact (order_no hc ⟨h0, by omega⟩ ‹_›).symm
   ·refine CW.skip ?_
    refine CW.region ?_
    refine V (run_add e9_12 rfl (by omega)) ?_
    refine V (mV (I _) rfl) ?_
    refine RL.nil ?_
    refine ⟨k + 1, ?_, fr12.u4.u4.u4, (hH21.sub (sQ sR)), (congrArg I (by first | rfl | omega)), ?_, ?_, ?_⟩
    ·((try dsimp only); omega)
    ·omega
    ·omega
    ·exact fun j a b => if e : j = k then e ▸ Decidable.of_not_not ‹_› else hf j a (by omega)
  ·refine CW.exit (id := 0) rfl ?_
   refine SR ?_
   refine V (aV (B true) rfl) ?_
   refine RL.nil ?_
   refine CW.ret ?_
   refine outP1 Tryd.results69 (congrArg B ?_) hH12.below
   exact (order_yes hc fun j a b => hf j a (by omega)).symm

theorem c_hasse_in (r : Rl) (i : Int) (w : World) : Calls Tryd.prog 89 #[.agg (relC r), I i] w (Pure (B (isP r i)) w) := by
 have hp := pts_bd r
 have hnn : (newR r.n).n = pts r := rfl
 refine enter Tryd.func89 rfl Tryd.ntmps89 rfl ?_
 have hH := Hp.start w
 refine SR ?_
 refine RL.new rfl hH (f := fun b => (.pointer (some ⟨b, 0, none⟩))) (run_box (v := .agg _) rfl) ?_
 intro b3 w1 hH2
 refine V (aV (B false) rfl) ?_
 refine RL.nil ?_
 refine SR ?_
 refine V (mV (I _) rfl) ?_
 refine V (run_geq rfl rfl) ?_
 refine V (mV (B _) rfl) ?_
 refine RL.splitP (dj := 7) rfl (fun h5 => ?_) (fun h5 => ?_)
 ·refine RL.gT rfl (bT h5) ?_
  refine V (mV (I _) rfl) ?_
  refine RL.gT rfl (bT h5) ?_
  refine V (fA underlying46 0 rfl sizeOf3 rfl) ?_
  refine RL.gT rfl (bT h5) ?_
  refine V (run_ld underlying3 rfl rfl (hH2.cell (i := 0) rfl (relC_N _))) ?_
  refine RL.gT rfl (bT h5) ?_
  refine RL.callP rfl hH2 (c_relate_New _  _) (run_call1 call50 rfl) ?_
  intro w6 hH7
  refine RL.gT rfl (bT h5) ?_
  refine V (run_field underlying46 rfl isAgg3 rfl (relC_N _)) ?_
  refine RL.gT rfl (bT h5) ?_
  refine V (run_lss rfl rfl) ?_
  refine V (run_pickT (bT h5) (v := B _) rfl) ?_
  refine V (aV (B _) rfl) ?_
  refine RL.nil ?_
  refine CW.ret ?_
  refine outP1 Tryd.results89 (congrArg B ?_) hH7.below
  (rw [isP, Bool.eq_iff_iff]; simp only [decide_eq_true_eq, Bool.false_eq_true, false_iff]; omega)
 ·refine RL.gF rfl rfl (bF h5) rfl ?_
  refine RL.gF rfl rfl (bF h5) rfl ?_
  refine RL.gF rfl rfl (bF h5) rfl ?_
  refine RL.gF rfl rfl (bF h5) rfl ?_
  refine RL.gF rfl rfl (bF h5) rfl ?_
  refine RL.gF rfl rfl (bF h5) rfl ?_
  refine V (run_pickF (bF h5) (v := B false) rfl) ?_
  refine V (aV (B _) rfl) ?_
  refine RL.nil ?_
  refine CW.ret ?_
  refine outP1 Tryd.results89 (congrArg B ?_) hH2.below
  (rw [isP, Bool.eq_iff_iff]; simp only [decide_eq_true_eq, Bool.false_eq_true, false_iff]; omega)

theorem c_hasse_above (r : Rl) (i : Int) (w : World) (hT : Tab w) : Calls Tryd.prog 88 #[.agg (relC r), I i] w (Pure (U (aboveR r i)) w) := by
 refine enter Tryd.func88 rfl Tryd.ntmps88 rfl ?_
 have hH := Hp.start w
 refine SR ?_
 refine RL.new rfl hH (f := fun b => (.pointer (some ⟨b, 0, none⟩))) (run_box (v := .agg _) rfl) ?_
 intro b3 w1 hH2
 refine V (aV (U 0#64) rfl) ?_
 refine RL.nil ?_
 refine CW.seq ?_
 refine CW.regionD (by kernel_rfl) hH2 ?_
 intro w4 hH5
 refine AT 0 rfl (hH5.sub sR) (fun w hS => run_ldRel underlying46 rfl rfl rfl (hS.blk (i := 0) rfl)) ?_
 refine AT 1 rfl (hH5.sub sR) (fun w hS => mV (I _) rfl) ?_
 refine A1 2 ?_
 refine AO.new rfl gnone rfl hH5 sR (f := fun b => .slice (some ⟨b, 0, none⟩) 1 1) (run_mkL underlying73 rfl rfl (sz := 1) (vs := [I _]) rfl rfl (by decide) (by decide) rfl rfl) ?_
 intro b8 w6 hH7
 (try simp only [List.flatMap_cons, List.flatMap_nil, clI, clB, clS, clP, clL, clA, List.append_nil, List.cons_append, List.nil_append] at hH7)
 refine A1 3 ?_
 refine AO.callP rfl gnone rfl hH7 (sQ sR) (c_mask_Of _ [i] _ (hH7.slBlk (i := 0) (n := 1) (sz := 1) rfl rfl (by decide))) (run_call1 call75 rfl) ?_
 intro w9 hH10
 refine A1 4 ?_
 refine AO.callP rfl gnone rfl hH10 (sQ sR) (c_relate_Up _ _  _ (hT.hp hH10)) (run_call2 call74 rfl rfl) ?_
 intro w11 hH12
 refine AT 5 rfl (hH12.sub (sQ sR)) (fun w hS => aV (U _) rfl) ?_
 refine AD ?_
 refine CW.ret ?_
 refine outP1 Tryd.results88 (congrArg U ?_) hH12.below
 rfl

theorem c_hasse_below (r : Rl) (i : Int) (w : World) (hT : Tab w) : Calls Tryd.prog 78 #[.agg (relC r), I i] w (Pure (U (belowR r i)) w) := by
 refine enter Tryd.func78 rfl Tryd.ntmps78 rfl ?_
 have hH := Hp.start w
 refine SR ?_
 refine RL.new rfl hH (f := fun b => (.pointer (some ⟨b, 0, none⟩))) (run_box (v := .agg _) rfl) ?_
 intro b3 w1 hH2
 refine V (aV (U 0#64) rfl) ?_
 refine RL.nil ?_
 refine CW.seq ?_
 refine SR ?_
 refine V (run_ldRel underlying46 rfl rfl rfl (hH2.blk (i := 0) rfl)) ?_
 refine V (mV (I _) rfl) ?_
 refine RL.callP rfl hH2 (c_hasse_in _ _  _) (run_call2 call89 rfl rfl) ?_
 intro w4 hH5
 refine V (run_not rfl) ?_
 refine RL.nil ?_
 refine CW.cond rfl (fun h8 => ?_) (fun h8 => ?_)
 ·refine SR ?_
  refine V (aV (U 0#64) rfl) ?_
  refine RL.nil ?_
  refine CW.ret ?_
  refine outP1 Tryd.results78 (congrArg U ?_) hH5.below
  first | rw [belowR, if_neg (by simpa using ‹(!isP r i) = true›)] | rw [belowR, if_pos (by simpa using ‹(!isP r i) = false›)]
 ·refine CW.skip ?_
  refine CW.seq ?_
  refine CW.regionD (by kernel_rfl) hH5 ?_
  intro w9 hH10
  refine AT 0 rfl (hH10.sub sR) (fun w hS => run_ldRel underlying46 rfl rfl rfl (hS.blk (i := 0) rfl)) ?_
  refine AT 1 rfl (hH10.sub sR) (fun w hS => mV (I _) rfl) ?_
  refine A1 2 ?_
  refine AO.new rfl gnone rfl hH10 sR (f := fun b => .slice (some ⟨b, 0, none⟩) 1 1) (run_mkL underlying73 rfl rfl (sz := 1) (vs := [I _]) rfl rfl (by decide) (by decide) rfl rfl) ?_
  intro b13 w11 hH12
  (try simp only [List.flatMap_cons, List.flatMap_nil, clI, clB, clS, clP, clL, clA, List.append_nil, List.cons_append, List.nil_append] at hH12)
  refine A1 3 ?_
  refine AO.callP rfl gnone rfl hH12 (sQ sR) (c_mask_Of _ [i] _ (hH12.slBlk (i := 0) (n := 1) (sz := 1) rfl rfl (by decide))) (run_call1 call75 rfl) ?_
  intro w14 hH15
  refine A1 4 ?_
  refine AO.callP rfl gnone rfl hH15 (sQ sR) (c_relate_Down _ _  _) (run_call2 call76 rfl rfl) ?_
  intro w16 hH17
  refine AT 5 rfl (hH17.sub (sQ sR)) (fun w hS => aV (U _) rfl) ?_
  refine AD ?_
  refine CW.ret ?_
  refine outP1 Tryd.results78 (congrArg U ?_) hH17.below
  first | rw [belowR, if_neg (by simpa using ‹(!isP r i) = true›)] | rw [belowR, if_pos (by simpa using ‹(!isP r i) = false›)]

theorem c_hasse_nearest (r : Rl) (i j : Int) (f : FuncId) (gg : Int → BitVec 64) (w : World) (hf : ∀ args w, (callFunc f args).run Tryd.prog w = .ok (.enter f args) w) (go : ∀ i w, Tab w → Calls Tryd.prog f #[.agg (relC r), I i] w (Pure (U (gg i)) w)) (hn : ∀ u, hasB (gg i &&& gg j) u = true → u < pts r) (hT : Tab w) : Calls Tryd.prog 87 #[.agg (relC r), I i, I j, .func (.func f) #[] #[]] w (Pure (.tuple #[I (nearV gg (pts r) i j).1, B (nearV gg (pts r) i j).2]) w) := by
 have hl := lst_len (gg i &&& gg j)
 refine enter Tryd.func87 rfl Tryd.ntmps87 rfl ?_
 have hH := Hp.start w
 refine SR ?_
 refine RL.new rfl hH (f := fun b => (.pointer (some ⟨b, 0, none⟩))) (run_box (v := .agg _) rfl) ?_
 intro b3 w1 hH2
 refine V (aV (I 0) rfl) ?_
 refine V (aV (B false) rfl) ?_
 refine RL.nil ?_
 refine CW.seq ?_
 refine CW.regionD (by kernel_rfl) hH2 ?_
 intro w4 hH5
 refine AT 0 rfl (hH5.sub sR) (fun w hS => mV (.func _ _ _) rfl) ?_
 refine AT 1 rfl (hH5.sub sR) (fun w hS => run_ldRel underlying46 rfl rfl rfl (hS.blk (i := 0) rfl)) ?_
 refine AT 2 rfl (hH5.sub sR) (fun w hS => mV (I _) rfl) ?_
 refine AT 4 rfl (hH5.sub sR) (fun w hS => mV (.func _ _ _) rfl) ?_
 refine AT 5 rfl (hH5.sub sR) (fun w hS => run_ldRel underlying46 rfl rfl rfl (hS.blk (i := 0) rfl)) ?_
 refine AT 6 rfl (hH5.sub sR) (fun w hS => mV (I _) rfl) ?_
 refine A1 3 ?_
 refine AO.callP rfl gnone rfl hH5 sR (go _ _ (hT.hp hH5)) (run_callC2 hf (cs := []) rfl rfl rfl) ?_
 intro w6 hH7
 refine A1 7 ?_
 refine AO.callP rfl gnone rfl hH7 sR (go _ _ (hT.hp hH7)) (run_callC2 hf (cs := []) rfl rfl rfl) ?_
 intro w8 hH9
 refine AT 8 rfl (hH9.sub sR) (fun w hS => run_andU rfl rfl) ?_
 refine AT 9 rfl (hH9.sub sR) (fun w hS => aV (U _) rfl) ?_
 refine AD ?_
 refine CW.seq ?_
 refine SR ?_
 refine V (mV (U _) rfl) ?_
 refine RL.callR rfl hH9 (c_mask_List _  _ (hT.hp hH9)) (run_call1 call32 rfl) ?_
 intro v12 w10 hH11
 refine V (run_lenSl (hH11.sl (i := 0) rfl) rfl underlying73 rfl) ?_
 refine V (mV (I 0) rfl) ?_
 refine RL.nil ?_
 refine CW.block ?_
 refine CW.loop (G := (Int)) (fun (a : Int) s' w' => (Fr [8, 9, 12, 25, 26, 27, 28, 29, 30, 31, 32, 33, 34, 35, 36] _ s') ∧ (Hp w w' _) ∧ (s' 25 = I a) ∧ (0 ≤ a) ∧ (a ≤ (lst (gg i &&& gg j)).length) ∧ (∀ b : Int, 0 ≤ b → b < a → subB (gg i &&& gg j) (gg ((lst (gg i &&& gg j)).getD b.toNat 0)) = false)) (fun (a : Int) => ((lst (gg i &&& gg j)).length - a).toNat) (0) ⟨Fr.refl _ _, hH11, rfl, (by omega), (by omega), fun b x y => absurd y (by omega)⟩ ?_
 rintro a sg13 w13 ⟨fr13, hH13, e25_13, a0, a1, hg⟩
 have e3_13 : sg13 3 = .func _ _ _ := (fr13 3 rfl).trans rfl
 have e4_13 : sg13 4 = Pn _ _ := (fr13 4 rfl).trans rfl
 have e10_13 : sg13 10 = U _ := (fr13 10 rfl).trans rfl
 have e23_13 := (fr13 23 rfl).trans (by conv => lhs; whnf)
 have e24_13 : sg13 24 = I _ := (fr13 24 rfl).trans rfl
 refine SR ?_
 refine V (run_lss e25_13 e24_13) ?_
 refine RL.nil ?_
 refine CW.seq ?_
 refine CW.condP rfl (fun h15 => ?_) (fun h15 => ?_)
 ·refine CW.skip ?_
  refine CW.seq ?_
  refine CW.block ?_
  refine SR ?_
  refine V (run_indexAddrS (hH13.sl (i := 0) rfl) underlying73 sizeOf3 e23_13 e25_13 (by omega)) ?_
  refine V (run_ld underlying3 rfl rfl ((hH13.sl (i := 0) rfl).cell _ _ (map_at (by omega)))) ?_
  refine V (aV (I _) rfl) ?_
  refine RL.nil ?_
  refine SR ?_
  refine V (run_move e10_13) ?_
  refine V (run_move e3_13) ?_
  refine V (run_ldRel underlying46 rfl rfl e4_13 (hH13.blk (i := 1) rfl)) ?_
  refine V (mV (I _) rfl) ?_
  refine RL.callP rfl hH13 (go _ _ (hT.hp hH13)) (run_callC2 hf (cs := []) rfl rfl rfl) ?_
  intro w16 hH17
  refine RL.callP rfl hH17 (c_mask_Sub _ _  _) (run_call2 call24 rfl rfl) ?_
  intro w18 hH19
  refine RL.nil ?_
  refine CW.cond rfl (fun h21 => ?_) (fun h21 => ?_)
  ·refine SR ?_
   refine V (mV (I _) rfl) ?_
   refine V (aV (I _) rfl) ?_
   refine V (aV (B true) rfl) ?_
   refine RL.nil ?_
   refine CW.ret ?_
   refine outP2 Tryd.results87 (congrArg I ?_) (congrArg B ?_) hH19.below <;> rw [near_yes hn a0 ‹_› ‹_› hg]
  ·refine CW.skip ?_
   refine CW.region ?_
   refine V (run_add e25_13 rfl (by omega)) ?_
   refine V (mV (I _) rfl) ?_
   refine RL.nil ?_
   refine ⟨a + 1, ?_, fr13.u4.u4.u4, hH19, (congrArg I (by first | rfl | omega)), ?_, ?_, ?_⟩
   ·((try dsimp only); omega)
   ·omega
   ·omega
   ·exact fun b x y => if e : b = a then e ▸ ‹_› else hg b x (by omega)
 ·refine CW.exit (id := 0) rfl ?_
  refine SR ?_
  refine V (aV (I 0) rfl) ?_
  refine V (aV (B false) rfl) ?_
  refine RL.nil ?_
  refine CW.ret ?_
  refine outP2 Tryd.results87 (congrArg I ?_) (congrArg B ?_) hH13.below <;> rw [near_no ‹_› hg]

theorem c_hasse_Join (r : Rl) (i j : Int) (w : World) (hT : Tab w) : Calls Tryd.prog 70 #[.agg (relC r), I i, I j] w (Pure (.tuple #[I (joinV r i j).1, B (joinV r i j).2]) w) := by
 refine enter Tryd.func70 rfl Tryd.ntmps70 rfl ?_
 have hH := Hp.start w
 refine SR ?_
 refine RL.new rfl hH (f := fun b => (.pointer (some ⟨b, 0, none⟩))) (run_box (v := .agg _) rfl) ?_
 intro b3 w1 hH2
 refine V (aV (I 0) rfl) ?_
 refine V (aV (B false) rfl) ?_
 refine RL.nil ?_
 refine SR ?_
 refine V (run_ldRel underlying46 rfl rfl rfl (hH2.blk (i := 0) rfl)) ?_
 refine V (mV (I _) rfl) ?_
 refine V (mV (I _) rfl) ?_
 refine RL.callP rfl hH2 (c_hasse_nearest r i j 88 (aboveR r) _ call88 (fun i w h => c_hasse_above r i w h) (fun u h => above_in h) (hT.hp hH2)) (run_call4 call87 rfl rfl rfl rfl) ?_
 intro w4 hH5
 refine V (run_extract rfl (v := I _) rfl) ?_
 refine V (run_extract rfl (v := B _) rfl) ?_
 refine V (aV (I _) rfl) ?_
 refine V (aV (B _) rfl) ?_
 refine RL.nil ?_
 refine CW.ret ?_
 refine outP2 Tryd.results70 (congrArg I ?_) (congrArg B ?_) hH5.below
 all_goals rfl

theorem c_hasse_Meet (r : Rl) (i j : Int) (w : World) (hT : Tab w) : Calls Tryd.prog 71 #[.agg (relC r), I i, I j] w (Pure (.tuple #[I (meetV r i j).1, B (meetV r i j).2]) w) := by
 refine enter Tryd.func71 rfl Tryd.ntmps71 rfl ?_
 have hH := Hp.start w
 refine SR ?_
 refine RL.new rfl hH (f := fun b => (.pointer (some ⟨b, 0, none⟩))) (run_box (v := .agg _) rfl) ?_
 intro b3 w1 hH2
 refine V (aV (I 0) rfl) ?_
 refine V (aV (B false) rfl) ?_
 refine RL.nil ?_
 refine SR ?_
 refine V (run_ldRel underlying46 rfl rfl rfl (hH2.blk (i := 0) rfl)) ?_
 refine V (mV (I _) rfl) ?_
 refine V (mV (I _) rfl) ?_
 refine RL.callP rfl hH2 (c_hasse_nearest r i j 78 (belowR r) _ call78 (fun i w h => c_hasse_below r i w h) (fun u h => below_inR h) (hT.hp hH2)) (run_call4 call87 rfl rfl rfl rfl) ?_
 intro w4 hH5
 refine V (run_extract rfl (v := I _) rfl) ?_
 refine V (run_extract rfl (v := B _) rfl) ?_
 refine V (aV (I _) rfl) ?_
 refine V (aV (B _) rfl) ?_
 refine RL.nil ?_
 refine CW.ret ?_
 refine outP2 Tryd.results71 (congrArg I ?_) (congrArg B ?_) hH5.below
 all_goals rfl

theorem c_hasse_Word (r : Rl) (i : Int) (w : World) (hT : Tab w) : Calls Tryd.prog 51 #[.agg (relC r), I i] w (Pure (U (belowR r i)) w) := by
 refine enter Tryd.func51 rfl Tryd.ntmps51 rfl ?_
 have hH := Hp.start w
 refine SR ?_
 refine RL.new rfl hH (f := fun b => (.pointer (some ⟨b, 0, none⟩))) (run_box (v := .agg _) rfl) ?_
 intro b3 w1 hH2
 refine V (aV (U 0#64) rfl) ?_
 refine RL.nil ?_
 refine SR ?_
 refine V (run_ldRel underlying46 rfl rfl rfl (hH2.blk (i := 0) rfl)) ?_
 refine V (mV (I _) rfl) ?_
 refine RL.callP rfl hH2 (c_hasse_below _ _  _ (hT.hp hH2)) (run_call2 call78 rfl rfl) ?_
 intro w4 hH5
 refine V (aV (U _) rfl) ?_
 refine RL.nil ?_
 refine CW.ret ?_
 refine outP1 Tryd.results51 (congrArg U ?_) hH5.below
 rfl

theorem c_hasse_Point (r : Rl) (s : BitVec 64) (w : World) (hT : Tab w) : Calls Tryd.prog 27 #[.agg (relC r), U s] w (Pure (.tuple #[I (pointV r s).1, B (pointV r s).2]) w) := by
 have hp := pts_bd r
 have hnn : (newR r.n).n = pts r := rfl
 refine enter Tryd.func27 rfl Tryd.ntmps27 rfl ?_
 have hH := Hp.start w
 refine SR ?_
 refine RL.new rfl hH (f := fun b => (.pointer (some ⟨b, 0, none⟩))) (run_box (v := .agg _) rfl) ?_
 intro b3 w1 hH2
 refine V (aV (I 0) rfl) ?_
 refine V (aV (B false) rfl) ?_
 refine RL.nil ?_
 refine CW.seq ?_
 refine SR ?_
 refine V (fA underlying46 0 rfl sizeOf3 rfl) ?_
 refine V (run_ld underlying3 rfl rfl (hH2.cell (i := 0) rfl (relC_N _))) ?_
 refine RL.callP rfl hH2 (c_relate_New _  _) (run_call1 call50 rfl) ?_
 intro w4 hH5
 refine V (run_field underlying46 rfl isAgg3 rfl (relC_N _)) ?_
 refine V (mV (I 0) rfl) ?_
 refine RL.nil ?_
 refine CW.block ?_
 refine CW.loop (G := (Int)) (fun (k : Int) s' w' => (Fr [4, 5, 6, 11, 12, 13, 14, 15, 16, 17, 18, 19, 20] _ s') ∧ (Hp w w' _) ∧ (s' 11 = I k) ∧ (0 ≤ k) ∧ (k ≤ pts r) ∧ (∀ j : Int, 0 ≤ j → j < k → belowR r j ≠ s)) (fun (k : Int) => (pts r - k).toNat) (0) ⟨Fr.refl _ _, hH5, rfl, (by omega), (by omega), fun j x y => absurd y (by omega)⟩ ?_
 rintro k sg6 w6 ⟨fr6, hH6, e11_6, h0, hk, hg⟩
 have e1_6 : sg6 1 = U _ := (fr6 1 rfl).trans rfl
 have e2_6 : sg6 2 = Pn _ _ := (fr6 2 rfl).trans rfl
 have e10_6 : sg6 10 = I _ := (fr6 10 rfl).trans rfl
 refine SR ?_
 refine V (run_lss e11_6 e10_6) ?_
 refine RL.nil ?_
 refine CW.seq ?_
 refine CW.condP rfl (fun h8 => ?_) (fun h8 => ?_)
 ·refine CW.skip ?_
  refine CW.seq ?_
  refine CW.block ?_
  refine SR ?_
  refine V (run_move e11_6) ?_
  refine V (aV (I _) rfl) ?_
  refine RL.nil ?_
  refine SR ?_
  refine V (run_ldRel underlying46 rfl rfl e2_6 (hH6.blk (i := 0) rfl)) ?_
  refine V (mV (I _) rfl) ?_
  refine RL.callP rfl hH6 (c_hasse_Word _ _  _ (hT.hp hH6)) (run_call2 call51 rfl rfl) ?_
  intro w9 hH10
  refine V (run_move e1_6) ?_
  refine V (run_eqlU rfl rfl) ?_
  refine RL.nil ?_
  refine CW.condP rfl (fun h12 => ?_) (fun h12 => ?_)
  ·refine SR ?_
   refine V (mV (I _) rfl) ?_
   refine V (aV (I _) rfl) ?_
   refine V (aV (B true) rfl) ?_
   refine RL.nil ?_
   refine CW.ret ?_
   refine outP2 Tryd.results27 (congrArg I ?_) (congrArg B ?_) hH10.below <;> rw [point_yes h0 (by omega) ‹_› hg]
  ·refine CW.skip ?_
   refine CW.region ?_
   refine V (run_add e11_6 rfl (by omega)) ?_
   refine V (mV (I _) rfl) ?_
   refine RL.nil ?_
   refine ⟨k + 1, ?_, fr6.u4.u4.u1.u1, hH10, (congrArg I (by first | rfl | omega)), ?_, ?_, ?_⟩
   ·((try dsimp only); omega)
   ·omega
   ·omega
   ·exact fun j x y => if e : j = k then e ▸ ‹¬ belowR r k = s› else hg j x (by omega)
 ·refine CW.exit (id := 0) rfl ?_
  refine SR ?_
  refine V (aV (I 0) rfl) ?_
  refine V (aV (B false) rfl) ?_
  refine RL.nil ?_
  refine CW.ret ?_
  refine outP2 Tryd.results27 (congrArg I ?_) (congrArg B ?_) hH6.below <;> rw [point_no (by omega) hg]

theorem c_hasse_Lattice (r : Rl) (w : World) (hT : Tab w) : Calls Tryd.prog 48 #[.agg (relC r)] w (Pure (B (latB r)) w) := by
 have hp := pts_bd r
 refine enter Tryd.func48 rfl Tryd.ntmps48 rfl ?_
 have hH := Hp.start w
 refine SR ?_
 refine RL.new rfl hH (f := fun b => (.pointer (some ⟨b, 0, none⟩))) (run_box (v := .agg _) rfl) ?_
 intro b3 w1 hH2
 refine V (aV (B false) rfl) ?_
 refine RL.nil ?_
 refine CW.seq ?_
 refine SR ?_
 refine V (fA underlying46 0 rfl sizeOf3 rfl) ?_
 refine V (run_ld underlying3 rfl rfl (hH2.cell (i := 0) rfl (relC_N _))) ?_
 refine V (run_lss rfl rfl) ?_
 refine V (mV (B _) rfl) ?_
 refine RL.splitP (dj := 12) rfl (fun h5 => ?_) (fun h5 => ?_)
 ·refine RL.gF rfl rfl (bT h5) rfl ?_
  refine RL.gF rfl rfl (bT h5) rfl ?_
  refine RL.gF rfl rfl (bT h5) rfl ?_
  refine V (run_pickT (bT h5) (v := B true) rfl) ?_
  refine V (mV (B _) rfl) ?_
  refine RL.gF rfl rfl rfl rfl ?_
  refine RL.gF rfl rfl rfl rfl ?_
  refine RL.gF rfl rfl rfl rfl ?_
  refine V (run_pickT rfl (v := B true) rfl) ?_
  refine RL.nil ?_
  refine CW.condT rfl ?_
  refine SR ?_
  refine V (aV (B false) rfl) ?_
  refine RL.nil ?_
  refine CW.ret ?_
  refine outP1 Tryd.results48 (congrArg B ?_) hH2.below
  first | exact (lat_no1 (by omega)).symm | exact (lat_no2 (nt ‹_›)).symm | exact (lat_no3 ‹i < r.n› j0 ‹j < i› (by rw [bothB, nt ‹(!(joinV r i j).2) = true›]; rfl)).symm | exact (lat_no3 ‹i < r.n› j0 ‹j < i› (by rw [bothB, nt ‹(!(meetV r i j).2) = true›]; simp)).symm | exact (lat_yes hn ho ‹_› hg).symm
 ·refine RL.gT rfl (bF h5) ?_
  refine V (fA underlying46 0 rfl sizeOf3 rfl) ?_
  refine RL.gT rfl (bF h5) ?_
  refine V (run_ld underlying3 rfl rfl (hH2.cell (i := 0) rfl (relC_N _))) ?_
  refine RL.gT rfl (bF h5) ?_
  refine V (run_gtr rfl rfl) ?_
  refine V (run_pickF (bF h5) (v := B _) rfl) ?_
  refine V (mV (B _) rfl) ?_
  refine RL.splitP (dj := 17) rfl (fun h7 => ?_) (fun h7 => ?_)
  ·refine RL.gF rfl rfl (bT h7) rfl ?_
   refine RL.gF rfl rfl (bT h7) rfl ?_
   refine RL.gF rfl rfl (bT h7) rfl ?_
   refine V (run_pickT (bT h7) (v := B true) rfl) ?_
   refine RL.nil ?_
   refine CW.condT rfl ?_
   refine SR ?_
   refine V (aV (B false) rfl) ?_
   refine RL.nil ?_
   refine CW.ret ?_
   refine outP1 Tryd.results48 (congrArg B ?_) hH2.below
   first | exact (lat_no1 (by omega)).symm | exact (lat_no2 (nt ‹_›)).symm | exact (lat_no3 ‹i < r.n› j0 ‹j < i› (by rw [bothB, nt ‹(!(joinV r i j).2) = true›]; rfl)).symm | exact (lat_no3 ‹i < r.n› j0 ‹j < i› (by rw [bothB, nt ‹(!(meetV r i j).2) = true›]; simp)).symm | exact (lat_yes hn ho ‹_› hg).symm
  ·refine RL.gT rfl (bF h7) ?_
   refine V (run_ldRel underlying46 rfl rfl rfl (hH2.blk (i := 0) rfl)) ?_
   refine RL.gT rfl (bF h7) ?_
   refine RL.callP rfl hH2 (c_relate_Order _  _ (hT.hp hH2)) (run_call1 call69 rfl) ?_
   intro w8 hH9
   refine RL.gT rfl (bF h7) ?_
   refine V (run_not rfl) ?_
   refine V (run_pickF (bF h7) (v := B _) rfl) ?_
   refine RL.nil ?_
   refine CW.cond rfl (fun h12 => ?_) (fun h12 => ?_)
   ·refine SR ?_
    refine V (aV (B false) rfl) ?_
    refine RL.nil ?_
    refine CW.ret ?_
    refine outP1 Tryd.results48 (congrArg B ?_) hH9.below
    first | exact (lat_no1 (by omega)).symm | exact (lat_no2 (nt ‹_›)).symm | exact (lat_no3 ‹i < r.n› j0 ‹j < i› (by rw [bothB, nt ‹(!(joinV r i j).2) = true›]; rfl)).symm | exact (lat_no3 ‹i < r.n› j0 ‹j < i› (by rw [bothB, nt ‹(!(meetV r i j).2) = true›]; simp)).symm | exact (lat_yes hn ho ‹_› hg).symm
   ·refine CW.skip ?_
    refine CW.seq ?_
    refine SR ?_
    refine V (fA underlying46 0 rfl sizeOf3 rfl) ?_
    refine V (run_ld underlying3 rfl rfl (hH9.cell (i := 0) rfl (relC_N _))) ?_
    refine V (mV (I 0) rfl) ?_
    refine RL.nil ?_
    refine CW.block ?_
    have hn : 1 ≤ r.n ∧ r.n ≤ 64 := by omega
    have ho : orderB r = true := nf ‹_›
    refine CW.loop (G := (Int)) (fun (i : Int) s' w' => (Fr [2, 3, 4, 5, 6, 7, 8, 24, 25, 26, 27, 28, 29, 30, 31, 32, 33, 34, 35, 36, 37, 38, 39, 40, 41, 42, 43, 44, 45, 46, 47, 48, 49, 50, 51, 52] _ s') ∧ (Hp w w' _) ∧ (s' 24 = I i) ∧ (0 ≤ i) ∧ (i ≤ r.n) ∧ (∀ a b : Int, 0 ≤ b → b < a → a < i → bothB r a b = true)) (fun (i : Int) => (r.n - i).toNat) (0) ⟨Fr.refl _ _, hH9, rfl, (by omega), (by omega), fun a b x y z => absurd z (by omega)⟩ ?_
    rintro i sg13 w13 ⟨fr13, hH13, e24_13, i0, i1, hg⟩
    have e1_13 : sg13 1 = Pn _ _ := (fr13 1 rfl).trans rfl
    have e23_13 : sg13 23 = I _ := (fr13 23 rfl).trans rfl
    refine SR ?_
    refine V (run_lss e24_13 e23_13) ?_
    refine RL.nil ?_
    refine CW.seq ?_
    refine CW.condP rfl (fun h15 => ?_) (fun h15 => ?_)
    ·refine CW.skip ?_
     refine CW.seq ?_
     refine CW.block ?_
     refine SR ?_
     refine V (run_move e24_13) ?_
     refine V (aV (I _) rfl) ?_
     refine RL.nil ?_
     refine SR ?_
     refine V (mV (I _) rfl) ?_
     refine V (mV (I 0) rfl) ?_
     refine RL.nil ?_
     refine CW.block ?_
     refine CW.loop (G := (Int)) (fun (j : Int) s' w' => (Fr [2, 4, 5, 6, 7, 8, 28, 29, 30, 31, 32, 33, 34, 35, 36, 37, 38, 39, 40, 41, 42, 43, 44, 45, 46, 47, 48, 49, 50, 51] _ s') ∧ (Hp w w' _) ∧ (s' 28 = I j) ∧ (0 ≤ j) ∧ (j ≤ i) ∧ (∀ b : Int, 0 ≤ b → b < j → bothB r i b = true)) (fun (j : Int) => (i - j).toNat) (0) ⟨Fr.refl _ _, hH13, rfl, (by omega), (by omega), fun b x y => absurd y (by omega)⟩ ?_
     rintro j sg16 w16 ⟨fr16, hH16, e28_16, j0, j1, hh⟩
     have e1_16 := (fr16 1 rfl).trans e1_13
     have e3_16 : sg16 3 = I _ := (fr16 3 rfl).trans rfl
     have e23_16 := (fr16 23 rfl).trans e23_13
     have e24_16 := (fr16 24 rfl).trans e24_13
     have e25_16 : sg16 25 = B _ := (fr16 25 rfl).trans rfl
     have e26_16 : sg16 26 = I _ := (fr16 26 rfl).trans rfl
     have e27_16 : sg16 27 = I _ := (fr16 27 rfl).trans rfl
     refine SR ?_
     refine V (run_lss e28_16 e27_16) ?_
     refine RL.nil ?_
     refine CW.seq ?_
     refine CW.condP rfl (fun h18 => ?_) (fun h18 => ?_)
     ·refine CW.skip ?_
      refine CW.seq ?_
      refine CW.block ?_
      refine SR ?_
      refine V (run_move e28_16) ?_
      refine V (aV (I _) rfl) ?_
      refine RL.nil ?_
      refine SR ?_
      refine V (run_ldRel underlying46 rfl rfl e1_16 (hH16.blk (i := 0) rfl)) ?_
      refine V (run_move e3_16) ?_
      refine V (mV (I _) rfl) ?_
      refine RL.callP rfl hH16 (c_hasse_Join _ _ _  _ (hT.hp hH16)) (run_call3 call70 rfl rfl rfl) ?_
      intro w19 hH20
      refine V (run_move (by conv => lhs; whnf)) ?_
      refine V (run_extract rfl (v := I _) rfl) ?_
      refine V (run_extract rfl (v := B _) rfl) ?_
      refine V (aV (I _) rfl) ?_
      refine V (aV (B _) rfl) ?_
      refine RL.nil ?_
      refine SR ?_
      refine V (run_ldRel underlying46 rfl rfl e1_16 (hH20.blk (i := 0) rfl)) ?_
      refine V (run_move e3_16) ?_
      refine V (mV (I _) rfl) ?_
      refine RL.callP rfl hH20 (c_hasse_Meet _ _ _  _ (hT.hp hH20)) (run_call3 call71 rfl rfl rfl) ?_
      intro w22 hH23
      refine V (run_move (by conv => lhs; whnf)) ?_
      refine V (run_extract rfl (v := I _) rfl) ?_
      refine V (run_extract rfl (v := B _) rfl) ?_
      refine V (aV (I _) rfl) ?_
      refine V (aV (B _) rfl) ?_
      refine RL.nil ?_
      refine SR ?_
      refine V (mV (B _) rfl) ?_
      refine V (run_not rfl) ?_
      refine V (mV (B _) rfl) ?_
      refine RL.split (dj := 47) rfl (fun h26 => ?_) (fun h26 => ?_)
      ·refine RL.gF rfl rfl (bR (c := true) h26) rfl ?_
       refine RL.gF rfl rfl (bR (c := true) h26) rfl ?_
       refine V (run_pickT (bR (c := true) h26) (v := B true) rfl) ?_
       refine RL.nil ?_
       refine CW.condT rfl ?_
       refine SR ?_
       refine V (aV (B false) rfl) ?_
       refine RL.nil ?_
       refine CW.ret ?_
       refine outP1 Tryd.results48 (congrArg B ?_) hH23.below
       first | exact (lat_no1 (by omega)).symm | exact (lat_no2 (nt ‹_›)).symm | exact (lat_no3 ‹i < r.n› j0 ‹j < i› (by rw [bothB, nt ‹(!(joinV r i j).2) = true›]; rfl)).symm | exact (lat_no3 ‹i < r.n› j0 ‹j < i› (by rw [bothB, nt ‹(!(meetV r i j).2) = true›]; simp)).symm | exact (lat_yes hn ho ‹_› hg).symm
      ·refine RL.gT rfl (bR (c := false) h26) ?_
       refine V (mV (B _) rfl) ?_
       refine RL.gT rfl (bR (c := false) h26) ?_
       refine V (run_not rfl) ?_
       refine V (run_pickF (bR (c := false) h26) (v := B _) rfl) ?_
       refine RL.nil ?_
       refine CW.cond rfl (fun h28 => ?_) (fun h28 => ?_)
       ·refine SR ?_
        refine V (aV (B false) rfl) ?_
        refine RL.nil ?_
        refine CW.ret ?_
        refine outP1 Tryd.results48 (congrArg B ?_) hH23.below
        first | exact (lat_no1 (by omega)).symm | exact (lat_no2 (nt ‹_›)).symm | exact (lat_no3 ‹i < r.n› j0 ‹j < i› (by rw [bothB, nt ‹(!(joinV r i j).2) = true›]; rfl)).symm | exact (lat_no3 ‹i < r.n› j0 ‹j < i› (by rw [bothB, nt ‹(!(meetV r i j).2) = true›]; simp)).symm | exact (lat_yes hn ho ‹_› hg).symm
       ·refine CW.skip ?_
        refine CW.region ?_
        refine V (run_add e28_16 rfl (by omega)) ?_
        refine V (mV (I _) rfl) ?_
        refine RL.nil ?_
        refine ⟨j + 1, ?_, fr16.u4.u4.u4.u4.u4.u4.u4.u1, hH23, (congrArg I (by first | rfl | omega)), ?_, ?_, ?_⟩
        ·((try dsimp only); omega)
        ·omega
        ·omega
        ·exact fun b x y => if e : b = j then e ▸ (by rw [bothB, Bool.and_eq_true]; exact ⟨nf ‹(!(joinV r i j).2) = false›, nf ‹(!(meetV r i j).2) = false›⟩) else hh b x (by omega)
     ·refine CW.exit (id := 2) rfl ?_
      refine CW.region ?_
      refine V (run_add e24_16 rfl (by omega)) ?_
      refine V (mV (I _) rfl) ?_
      refine RL.nil ?_
      refine ⟨i + 1, ?_, (((fr13.u4.u1).t fr16 rfl)).u1.u1.u1, hH16, (congrArg I (by first | rfl | omega)), ?_, ?_, ?_⟩
      ·((try dsimp only); omega)
      ·omega
      ·omega
      ·exact fun a b x y z => if e : a = i then e ▸ hh b x (by omega) else hg a b x y (by omega)
    ·refine CW.exit (id := 0) rfl ?_
     refine SR ?_
     refine V (aV (B true) rfl) ?_
     refine RL.nil ?_
     refine CW.ret ?_
     refine outP1 Tryd.results48 (congrArg B ?_) hH13.below
     first | exact (lat_no1 (by omega)).symm | exact (lat_no2 (nt ‹_›)).symm | exact (lat_no3 ‹i < r.n› j0 ‹j < i› (by rw [bothB, nt ‹(!(joinV r i j).2) = true›]; rfl)).symm | exact (lat_no3 ‹i < r.n› j0 ‹j < i› (by rw [bothB, nt ‹(!(meetV r i j).2) = true›]; simp)).symm | exact (lat_yes hn ho ‹_› hg).symm

theorem c_grid_Right (r : Rl) (w : World) : Calls Tryd.prog 47 #[.agg (relC r)] w (Pure (B (rightG r)) w) := by
 refine enter Tryd.func47 rfl Tryd.ntmps47 rfl ?_
 have hH := Hp.start w
 refine SR ?_
 refine RL.new rfl hH (f := fun b => (.pointer (some ⟨b, 0, none⟩))) (run_box (v := .agg _) rfl) ?_
 intro b3 w1 hH2
 refine V (aV (B false) rfl) ?_
 refine RL.nil ?_
 refine SR ?_
 refine V (fA underlying46 0 rfl sizeOf3 rfl) ?_
 refine V (run_ld underlying3 rfl rfl (hH2.cell (i := 0) rfl (relC_N _))) ?_
 refine V (run_geq rfl rfl) ?_
 refine V (mV (B _) rfl) ?_
 refine RL.splitP (dj := 6) rfl (fun h5 => ?_) (fun h5 => ?_)
 ·refine RL.gT rfl (bT h5) ?_
  refine V (fA underlying46 0 rfl sizeOf3 rfl) ?_
  refine RL.gT rfl (bT h5) ?_
  refine V (run_ld underlying3 rfl rfl (hH2.cell (i := 0) rfl (relC_N _))) ?_
  refine RL.gT rfl (bT h5) ?_
  refine V (run_leq rfl rfl) ?_
  refine V (run_pickT (bT h5) (v := B _) rfl) ?_
  refine V (mV (B _) rfl) ?_
  refine RL.splitP (dj := 11) rfl (fun h7 => ?_) (fun h7 => ?_)
  ·refine RL.gT rfl (bT h7) ?_
   refine V (run_ldRel underlying46 rfl rfl rfl (hH2.blk (i := 0) rfl)) ?_
   refine RL.gT rfl (bT h7) ?_
   refine RL.callP rfl hH2 (c_relate_Closed _  _) (run_call1 call68 rfl) ?_
   intro w8 hH9
   refine V (run_pickT (bT h7) (v := B _) rfl) ?_
   refine V (aV (B _) rfl) ?_
   refine RL.nil ?_
   refine CW.ret ?_
   refine outP1 Tryd.results47 (congrArg B ?_) hH9.below
   first | rw [rightG, decide_eq_false (show ¬ (1 ≤ r.n ∧ r.n ≤ 8) by omega), Bool.false_and] | rw [rightG, decide_eq_true (show 1 ≤ r.n ∧ r.n ≤ 8 by omega), Bool.true_and]
  ·refine RL.gF rfl rfl (bF h7) rfl ?_
   refine RL.gF rfl rfl (bF h7) rfl ?_
   refine V (run_pickF (bF h7) (v := B false) rfl) ?_
   refine V (aV (B _) rfl) ?_
   refine RL.nil ?_
   refine CW.ret ?_
   refine outP1 Tryd.results47 (congrArg B ?_) hH2.below
   first | rw [rightG, decide_eq_false (show ¬ (1 ≤ r.n ∧ r.n ≤ 8) by omega), Bool.false_and] | rw [rightG, decide_eq_true (show 1 ≤ r.n ∧ r.n ≤ 8 by omega), Bool.true_and]
 ·refine RL.gF rfl rfl (bF h5) rfl ?_
  refine RL.gF rfl rfl (bF h5) rfl ?_
  refine RL.gF rfl rfl (bF h5) rfl ?_
  refine V (run_pickF (bF h5) (v := B false) rfl) ?_
  refine V (mV (B _) rfl) ?_
  refine RL.gF rfl rfl rfl rfl ?_
  refine RL.gF rfl rfl rfl rfl ?_
  refine V (run_pickF rfl (v := B false) rfl) ?_
  refine V (aV (B _) rfl) ?_
  refine RL.nil ?_
  refine CW.ret ?_
  refine outP1 Tryd.results47 (congrArg B ?_) hH2.below
  first | rw [rightG, decide_eq_false (show ¬ (1 ≤ r.n ∧ r.n ≤ 8) by omega), Bool.false_and] | rw [rightG, decide_eq_true (show 1 ≤ r.n ∧ r.n ≤ 8 by omega), Bool.true_and]

theorem c_grid_row (r : Rl) (s : BitVec 64) (o : Int) (ho : 0 ≤ o ∧ o < 8) (w : World) : Calls Tryd.prog 54 #[.agg (relC r), U s, I o] w (Pure (U (growG r s o)) w) := by
 refine enter Tryd.func54 rfl Tryd.ntmps54 rfl ?_
 have hH := Hp.start w
 refine SR ?_
 refine RL.new rfl hH (f := fun b => (.pointer (some ⟨b, 0, none⟩))) (run_box (v := .agg _) rfl) ?_
 intro b3 w1 hH2
 refine V (aV (U 0#64) rfl) ?_
 refine RL.nil ?_
 refine SR ?_
 refine V (mV (U _) rfl) ?_
 refine V (mV (I _) rfl) ?_
 refine V (run_mul rfl rfl (by omega)) ?_
 refine V (run_convIU underlying3 underlying83 rfl) ?_
 refine V (run_shrU rfl rfl) ?_
 refine V (fA underlying46 0 rfl sizeOf3 rfl) ?_
 refine V (run_ld underlying3 rfl rfl (hH2.cell (i := 0) rfl (relC_N _))) ?_
 refine RL.callP rfl hH2 (c_mask_Below _  _) (run_call1 call25 rfl) ?_
 intro w4 hH5
 refine V (run_andU rfl rfl) ?_
 refine V (aV (U _) rfl) ?_
 refine RL.nil ?_
 refine CW.ret ?_
 refine outP1 Tryd.results54 (congrArg U ?_) hH5.below
 rfl

theorem c_grid_rows (r : Rl) (f : FuncId) (cs : List Value) (ff : Int → BitVec 64) (hn : 1 ≤ r.n ∧ r.n ≤ 8) (w : World) (hf : ∀ args w, (callFunc f args).run Tryd.prog w = .ok (.enter f args) w) (go : ∀ i w', Below w.heap.size w w' → 0 ≤ i → i < r.n → Calls Tryd.prog f (I i :: cs).toArray w' (Pure (U (ff i)) w')) : Calls Tryd.prog 72 #[.agg (relC r), .func (.func f) #[] cs.toArray] w (Pure (U (rowsG ff r.n)) w) := by
 refine enter Tryd.func72 rfl Tryd.ntmps72 rfl ?_
 have hH := Hp.start w
 refine SR ?_
 refine RL.new rfl hH (f := fun b => (.pointer (some ⟨b, 0, none⟩))) (run_box (v := .agg _) rfl) ?_
 intro b3 w1 hH2
 refine V (aV (U 0#64) rfl) ?_
 refine RL.nil ?_
 refine SR ?_
 refine V (aV (U 0#64) rfl) ?_
 refine RL.nil ?_
 refine CW.seq ?_
 refine SR ?_
 refine V (fA underlying46 0 rfl sizeOf3 rfl) ?_
 refine V (run_ld underlying3 rfl rfl (hH2.cell (i := 0) rfl (relC_N _))) ?_
 refine V (mV (I 0) rfl) ?_
 refine RL.nil ?_
 refine CW.block ?_
 refine CW.loop (G := (Int)) (fun (k : Int) s' w' => (Fr [5, 6, 9, 10, 11, 12, 13, 14, 15, 16, 17, 18, 19, 20, 21] _ s') ∧ (Hp w w' _) ∧ (s' 5 = U (rowsG ff k)) ∧ (s' 9 = I k) ∧ (0 ≤ k) ∧ (k ≤ r.n)) (fun (k : Int) => (r.n - k).toNat) (0) ⟨Fr.refl _ _, hH2, rfl, rfl, (by omega), (by omega)⟩ ?_
 rintro k sg4 w4 ⟨fr4, hH4, e5_4, e9_4, h0, hk⟩
 have e1_4 : sg4 1 = .func _ _ _ := (fr4 1 rfl).trans rfl
 have e4_4 : sg4 4 = U _ := (fr4 4 rfl).trans rfl
 have e8_4 : sg4 8 = I _ := (fr4 8 rfl).trans rfl
 refine SR ?_
 refine V (run_lss e9_4 e8_4) ?_
 refine RL.nil ?_
 refine CW.seq ?_
 refine CW.condP rfl (fun h6 => ?_) (fun h6 => ?_)
 ·refine CW.skip ?_
  refine CW.seq ?_
  refine CW.block ?_
  refine SR ?_
  refine V (run_move e9_4) ?_
  refine V (aV (I _) rfl) ?_
  refine RL.nil ?_
  refine CW.region ?_
  refine V (run_move e5_4) ?_
  refine V (run_move e1_4) ?_
  refine V (mV (I _) rfl) ?_
  refine RL.callP rfl hH4 (go _ _ hH4.below (by omega) (by omega)) (run_callC1 hf (cs := cs) rfl rfl) ?_
  intro w7 hH8
  refine V (mV (I _) rfl) ?_
  refine V (run_mul rfl rfl (by omega)) ?_
  refine V (run_convIU underlying3 underlying83 rfl) ?_
  refine V (run_shlU rfl rfl) ?_
  refine V (run_orU rfl rfl) ?_
  refine V (aV (U _) rfl) ?_
  refine RL.nil ?_
  refine CW.region ?_
  refine V (run_add e9_4 rfl (by omega)) ?_
  refine V (mV (I _) rfl) ?_
  refine RL.nil ?_
  refine ⟨k + 1, ?_, fr4.u4.u4.u4.u1.u1.u1, hH8, (congrArg U (rows_next h0)), (congrArg I (by first | rfl | omega)), ?_, ?_⟩
  ·((try dsimp only); omega)
  ·omega
  ·omega
 ·refine CW.exit (id := 0) rfl ?_
  refine SR ?_
  refine V (run_move e5_4) ?_
  refine V (aV (U _) rfl) ?_
  refine RL.nil ?_
  refine CW.ret ?_
  refine outP1 Tryd.results72 (congrArg U ?_) hH4.below
  (rw [show k = r.n by omega])

theorem c_grid_Close_1 (b c : Nat) (r : Rl) (s : BitVec 64) (o : Int) (hr : rightG r = true) (w : World) (hb : w.heap[b]? = some (.cells (relC r) 46 (0, 0))) (hc : w.heap[c]? = some (.cells #[U s] 25 (0, 0))) (hT : Tab w) : Calls Tryd.prog 73 #[I o, .pointer (some ⟨b, 0, none⟩), .pointer (some ⟨c, 0, none⟩)] w (Pure (U (closeF r s o)) w) := by
 have hl := lst_len (upR r (ofl [o]))
 refine enter Tryd.func73 rfl Tryd.ntmps73 rfl ?_
 have hH := Hp.start w
 refine SR ?_
 refine V (aV (U 0#64) rfl) ?_
 refine RL.nil ?_
 refine SR ?_
 refine V (aV (U 0#64) rfl) ?_
 refine RL.nil ?_
 refine CW.seq ?_
 refine CW.seq ?_
 refine CW.regionD (by kernel_rfl) hH ?_
 intro w1 hH2
 refine AT 0 rfl (hH2.sub sR) (fun w hS => run_ldRel underlying46 rfl rfl rfl (hS.ext hb)) ?_
 refine AT 1 rfl (hH2.sub sR) (fun w hS => mV (I _) rfl) ?_
 refine AT 7 rfl (hH2.sub sR) (fun w hS => mV (I 0) rfl) ?_
 refine A1 2 ?_
 refine AO.new rfl gnone rfl hH2 sR (f := fun b => .slice (some ⟨b, 0, none⟩) 1 1) (run_mkL underlying73 rfl rfl (sz := 1) (vs := [I _]) rfl rfl (by decide) (by decide) rfl rfl) ?_
 intro b5 w3 hH4
 (try simp only [List.flatMap_cons, List.flatMap_nil, clI, clB, clS, clP, clL, clA, List.append_nil, List.cons_append, List.nil_append] at hH4)
 have hH6 := hH4.blkRow 1 1 rfl (by decide)
 refine A1 3 ?_
 refine AO.callP rfl gnone rfl hH6 (sQ sR) (c_mask_Of _ [o] _ (hH6.sl (i := 0) rfl)) (run_call1 call75 rfl) ?_
 intro w7 hH8
 refine A1 4 ?_
 refine AO.callP rfl gnone rfl hH8 (sQ sR) (c_relate_Up _ _  _ (hT.hp hH8)) (run_call2 call74 rfl rfl) ?_
 intro w9 hH10
 refine A1 5 ?_
 refine AO.callR rfl gnone rfl hH10 (sQ sR) (c_mask_List _  _ (hT.hp hH10)) (run_call1 call32 rfl) ?_
 intro v13 w11 hH12
 refine A1 6 ?_
 refine AO.read rfl gnone rfl hH12 (sQ (sQ sR)) (run_lenSl (hH12.sl (i := 0) rfl) rfl underlying73 rfl) ?_
 refine AD ?_
 refine CW.block ?_
 refine CW.loop (G := (Int)) (fun (k : Int) s' w' => (Fr [5, 7, 15, 16, 17, 18, 19, 20, 21, 22, 23, 24, 25, 26, 27] _ s') ∧ (Hp w w' _) ∧ (s' 5 = U (orAll (fun p => downR r (growG r s p)) ((lst (upR r (ofl [o]))).take k.toNat))) ∧ (s' 15 = I k) ∧ (0 ≤ k) ∧ (k ≤ (lst (upR r (ofl [o]))).length)) (fun (k : Int) => ((lst (upR r (ofl [o]))).length - k).toNat) (0) ⟨Fr.refl _ _, hH12, (congrArg U (by simp [orAll])), rfl, (by omega), (by omega)⟩ ?_
 rintro k sg16 w16 ⟨fr16, hH16, e5_16, e15_16, h0, hk⟩
 have e1_16 := (fr16 1 rfl).trans (by conv => lhs; whnf)
 have e2_16 := (fr16 2 rfl).trans (by conv => lhs; whnf)
 have e4_16 : sg16 4 = U _ := (fr16 4 rfl).trans rfl
 have e13_16 := (fr16 13 rfl).trans (by conv => lhs; whnf)
 have e14_16 : sg16 14 = I _ := (fr16 14 rfl).trans rfl
 refine SR ?_
 refine V (run_lss e15_16 e14_16) ?_
 refine RL.nil ?_
 refine CW.seq ?_
 refine CW.condP rfl (fun h18 => ?_) (fun h18 => ?_)
 ·refine CW.skip ?_
  refine CW.seq ?_
  refine CW.block ?_
  refine SR ?_
  refine V (run_indexAddrS (hH16.sl (i := 0) rfl) underlying73 sizeOf3 e13_16 e15_16 (by omega)) ?_
  refine V (run_ld underlying3 rfl rfl ((hH16.sl (i := 0) rfl).cell _ _ (map_at (by omega)))) ?_
  refine V (aV (I _) rfl) ?_
  refine RL.nil ?_
  refine CW.regionD (by kernel_rfl) hH16 ?_
  intro w19 hH20
  refine AT 0 rfl (hH20.sub sR) (fun w hS => run_move e5_16) ?_
  refine AT 1 rfl (hH20.sub sR) (fun w hS => run_ldRel underlying46 rfl rfl e1_16 (hS.ext hb)) ?_
  refine AT 2 rfl (hH20.sub sR) (fun w hS => run_ldRel underlying46 rfl rfl e1_16 (hS.ext hb)) ?_
  refine AT 3 rfl (hH20.sub sR) (fun w hS => run_ld underlying25 rfl e2_16 (hS.extCell hc (v := U _) rfl)) ?_
  refine AT 4 rfl (hH20.sub sR) (fun w hS => mV (I _) rfl) ?_
  refine A1 5 ?_
  refine AO.callP rfl gnone rfl hH20 sR (c_grid_row _ _ _ (above_lt hr (lst_at h0 ‹_›)) _) (run_call3 call54 rfl rfl rfl) ?_
  intro w21 hH22
  refine A1 6 ?_
  refine AO.callP rfl gnone rfl hH22 sR (c_relate_Down _ _  _) (run_call2 call76 rfl rfl) ?_
  intro w23 hH24
  refine AT 7 rfl (hH24.sub sR) (fun w hS => run_orU rfl rfl) ?_
  refine AT 8 rfl (hH24.sub sR) (fun w hS => aV (U _) rfl) ?_
  refine AD ?_
  refine CW.region ?_
  refine V (run_add e15_16 rfl (by omega)) ?_
  refine V (mV (I _) rfl) ?_
  refine RL.nil ?_
  refine ⟨k + 1, ?_, fr16.u4.u4.u4.u1.u1.u1, hH24, (congrArg U (orAll_next (f := fun p => downR r (growG r s p)) h0 ‹_›)), (congrArg I (by first | rfl | omega)), ?_, ?_⟩
  ·((try dsimp only); omega)
  ·omega
  ·omega
 ·refine CW.exit (id := 0) rfl ?_
  refine SR ?_
  refine V (run_move e5_16) ?_
  refine V (aV (U _) rfl) ?_
  refine RL.nil ?_
  refine CW.ret ?_
  refine outP1 Tryd.results73 (congrArg U ?_) hH16.below
  (rw [take_all ‹_›]; rfl)

theorem c_grid_Close (r : Rl) (s : BitVec 64) (w : World) (hT : Tab w) : Calls Tryd.prog 49 #[.agg (relC r), U s] w (Pure (U (closeG r s)) w) := by
 refine enter Tryd.func49 rfl Tryd.ntmps49 rfl ?_
 have hH := Hp.start w
 refine SR ?_
 refine RL.new rfl hH (f := fun b => (.pointer (some ⟨b, 0, none⟩))) (run_box (v := .agg _) rfl) ?_
 intro b3 w1 hH2
 refine RL.new rfl hH2 (f := fun b => (.pointer (some ⟨b, 0, none⟩))) (run_box (v := U _) rfl) ?_
 intro b6 w4 hH5
 refine V (aV (U 0#64) rfl) ?_
 refine RL.nil ?_
 refine CW.seq ?_
 refine SR ?_
 refine V (run_ldRel underlying46 rfl rfl rfl (hH5.blk (i := 1) rfl)) ?_
 refine RL.callP rfl hH5 (c_grid_Right _  _) (run_call1 call47 rfl) ?_
 intro w7 hH8
 refine V (run_not rfl) ?_
 refine RL.nil ?_
 refine CW.cond rfl (fun h11 => ?_) (fun h11 => ?_)
 ·refine SR ?_
  refine V (aV (U 0#64) rfl) ?_
  refine RL.nil ?_
  refine CW.ret ?_
  refine outP1 Tryd.results49 (congrArg U ?_) hH8.below
  first | exact (close_no (nt ‹_›)).symm | exact close_yes (nf ‹_›)
 ·refine CW.skip ?_
  refine SR ?_
  refine V (run_ldRel underlying46 rfl rfl rfl (hH8.blk (i := 1) rfl)) ?_
  refine V (run_mkF2 (by conv => lhs; whnf) (by conv => lhs; whnf)) ?_
  refine RL.callP rfl hH8 (c_grid_rows r 73 [.pointer (some ⟨b3, 0, none⟩), .pointer (some ⟨b6, 0, none⟩)] (closeF r s) (right_spec (nf ‹(!rightG r) = false›)).1 _ call73 (fun i w h _ _ => c_grid_Close_1 b3 b6 r s i (nf ‹(!rightG r) = false›) w (keep h (hH8.blk (i := 1) rfl)) (keep h (hH8.blk (i := 0) rfl)) ((hT.hp hH8).below h))) (run_call2 call72 rfl rfl) ?_
  intro w12 hH13
  refine V (aV (U _) rfl) ?_
  refine RL.nil ?_
  refine CW.ret ?_
  refine outP1 Tryd.results49 (congrArg U ?_) hH13.below
  first | exact (close_no (nt ‹_›)).symm | exact close_yes (nf ‹_›)

theorem c_grid_Closed (r : Rl) (s : BitVec 64) (w : World) (hT : Tab w) : Calls Tryd.prog 26 #[.agg (relC r), U s] w (Pure (B (closedG r s)) w) := by
 refine enter Tryd.func26 rfl Tryd.ntmps26 rfl ?_
 have hH := Hp.start w
 refine SR ?_
 refine RL.new rfl hH (f := fun b => (.pointer (some ⟨b, 0, none⟩))) (run_box (v := .agg _) rfl) ?_
 intro b3 w1 hH2
 refine V (aV (B false) rfl) ?_
 refine RL.nil ?_
 refine SR ?_
 refine V (run_ldRel underlying46 rfl rfl rfl (hH2.blk (i := 0) rfl)) ?_
 refine RL.callP rfl hH2 (c_grid_Right _  _) (run_call1 call47 rfl) ?_
 intro w4 hH5
 refine V (mV (B _) rfl) ?_
 refine RL.split (dj := 7) rfl (fun h7 => ?_) (fun h7 => ?_)
 ·refine RL.gT rfl (bR (c := true) h7) ?_
  refine V (run_ldRel underlying46 rfl rfl rfl (hH5.blk (i := 0) rfl)) ?_
  refine RL.gT rfl (bR (c := true) h7) ?_
  refine V (mV (U _) rfl) ?_
  refine RL.gT rfl (bR (c := true) h7) ?_
  refine RL.callP rfl hH5 (c_grid_Close _ _  _ (hT.hp hH5)) (run_call2 call49 rfl rfl) ?_
  intro w8 hH9
  refine RL.gT rfl (bR (c := true) h7) ?_
  refine V (mV (U _) rfl) ?_
  refine RL.gT rfl (bR (c := true) h7) ?_
  refine V (run_eqlU rfl rfl) ?_
  refine V (run_pickT (bR (c := true) h7) (v := B _) rfl) ?_
  refine V (aV (B _) rfl) ?_
  refine RL.nil ?_
  refine CW.ret ?_
  refine outP1 Tryd.results26 (congrArg B ?_) hH9.below
  first | (rw [closedG, ‹rightG r = false›]; rfl) | (rw [closedG, ‹rightG r = true›]; rfl)
 ·refine RL.gF rfl rfl (bR (c := false) h7) rfl ?_
  refine RL.gF rfl rfl (bR (c := false) h7) rfl ?_
  refine RL.gF rfl rfl (bR (c := false) h7) rfl ?_
  refine RL.gF rfl rfl (bR (c := false) h7) rfl ?_
  refine RL.gF rfl rfl (bR (c := false) h7) rfl ?_
  refine V (run_pickF (bR (c := false) h7) (v := B false) rfl) ?_
  refine V (aV (B _) rfl) ?_
  refine RL.nil ?_
  refine CW.ret ?_
  refine outP1 Tryd.results26 (congrArg B ?_) hH5.below
  first | (rw [closedG, ‹rightG r = false›]; rfl) | (rw [closedG, ‹rightG r = true›]; rfl)

theorem c_grid_owns (r : Rl) (o : Int) (w : World) : Calls Tryd.prog 56 #[.agg (relC r), I o] w (Pure (B (ownsG r o)) w) := by
 refine enter Tryd.func56 rfl Tryd.ntmps56 rfl ?_
 have hH := Hp.start w
 refine SR ?_
 refine RL.new rfl hH (f := fun b => (.pointer (some ⟨b, 0, none⟩))) (run_box (v := .agg _) rfl) ?_
 intro b3 w1 hH2
 refine V (aV (B false) rfl) ?_
 refine RL.nil ?_
 refine SR ?_
 refine V (run_ldRel underlying46 rfl rfl rfl (hH2.blk (i := 0) rfl)) ?_
 refine RL.callP rfl hH2 (c_grid_Right _  _) (run_call1 call47 rfl) ?_
 intro w4 hH5
 refine V (mV (B _) rfl) ?_
 refine RL.split (dj := 7) rfl (fun h7 => ?_) (fun h7 => ?_)
 ·refine RL.gT rfl (bR (c := true) h7) ?_
  refine V (mV (I _) rfl) ?_
  refine RL.gT rfl (bR (c := true) h7) ?_
  refine V (run_geq rfl rfl) ?_
  refine V (run_pickT (bR (c := true) h7) (v := B _) rfl) ?_
  refine V (mV (B _) rfl) ?_
  refine RL.splitP (dj := 11) rfl (fun h9 => ?_) (fun h9 => ?_)
  ·refine RL.gT rfl (bT h9) ?_
   refine V (mV (I _) rfl) ?_
   refine RL.gT rfl (bT h9) ?_
   refine V (fA underlying46 0 rfl sizeOf3 rfl) ?_
   refine RL.gT rfl (bT h9) ?_
   refine V (run_ld underlying3 rfl rfl (hH5.cell (i := 0) rfl (relC_N _))) ?_
   refine RL.gT rfl (bT h9) ?_
   refine V (run_lss rfl rfl) ?_
   refine V (run_pickT (bT h9) (v := B _) rfl) ?_
   refine V (aV (B _) rfl) ?_
   refine RL.nil ?_
   refine CW.ret ?_
   refine outP1 Tryd.results56 (congrArg B ?_) hH5.below
   first | rw [own_no (.inl ‹_›)] | rw [own_no (.inr (by omega))] | (rw [ownsG, ‹rightG r = true›, Bool.true_and, Bool.eq_iff_iff]; simp only [decide_eq_true_eq]; omega)
  ·refine RL.gF rfl rfl (bF h9) rfl ?_
   refine RL.gF rfl rfl (bF h9) rfl ?_
   refine RL.gF rfl rfl (bF h9) rfl ?_
   refine RL.gF rfl rfl (bF h9) rfl ?_
   refine V (run_pickF (bF h9) (v := B false) rfl) ?_
   refine V (aV (B _) rfl) ?_
   refine RL.nil ?_
   refine CW.ret ?_
   refine outP1 Tryd.results56 (congrArg B ?_) hH5.below
   first | rw [own_no (.inl ‹_›)] | rw [own_no (.inr (by omega))] | (rw [ownsG, ‹rightG r = true›, Bool.true_and, Bool.eq_iff_iff]; simp only [decide_eq_true_eq]; omega)
 ·refine RL.gF rfl rfl (bR (c := false) h7) rfl ?_
  refine RL.gF rfl rfl (bR (c := false) h7) rfl ?_
  refine V (run_pickF (bR (c := false) h7) (v := B false) rfl) ?_
  refine V (mV (B _) rfl) ?_
  refine RL.gF rfl rfl rfl rfl ?_
  refine RL.gF rfl rfl rfl rfl ?_
  refine RL.gF rfl rfl rfl rfl ?_
  refine RL.gF rfl rfl rfl rfl ?_
  refine V (run_pickF rfl (v := B false) rfl) ?_
  refine V (aV (B _) rfl) ?_
  refine RL.nil ?_
  refine CW.ret ?_
  refine outP1 Tryd.results56 (congrArg B ?_) hH5.below
  first | rw [own_no (.inl ‹_›)] | rw [own_no (.inr (by omega))] | (rw [ownsG, ‹rightG r = true›, Bool.true_and, Bool.eq_iff_iff]; simp only [decide_eq_true_eq]; omega)

theorem c_grid_Rule_1 (b c : Nat) (o : Int) (s : BitVec 64) (i : Int) (w : World) (hb : w.heap[b]? = some (.cells #[I o] 3 (0, 0))) (hc : w.heap[c]? = some (.cells #[U s] 25 (0, 0))) : Calls Tryd.prog 82 #[I i, .pointer (some ⟨b, 0, none⟩), .pointer (some ⟨c, 0, none⟩)] w (Pure (U (ownF o s i)) w) := by
 refine enter Tryd.func82 rfl Tryd.ntmps82 rfl ?_
 have hH := Hp.start w
 refine SR ?_
 refine V (aV (U 0#64) rfl) ?_
 refine RL.nil ?_
 refine CW.seq ?_
 refine SR ?_
 refine V (mV (I _) rfl) ?_
 refine V (run_ld underlying3 rfl rfl (hH.extCell hb (v := I _) rfl)) ?_
 refine V (run_eql rfl rfl) ?_
 refine RL.nil ?_
 refine CW.condP rfl (fun h2 => ?_) (fun h2 => ?_)
 ·refine SR ?_
  refine V (run_ld underlying25 rfl rfl (hH.extCell hc (v := U _) rfl)) ?_
  refine V (aV (U _) rfl) ?_
  refine RL.nil ?_
  refine CW.ret ?_
  refine outP1 Tryd.results82 (congrArg U ?_) hH.below
  first | rw [ownF, if_pos ‹_›] | rw [ownF, if_neg ‹_›]
 ·refine CW.skip ?_
  refine SR ?_
  refine V (aV (U 0#64) rfl) ?_
  refine RL.nil ?_
  refine CW.ret ?_
  refine outP1 Tryd.results82 (congrArg U ?_) hH.below
  first | rw [ownF, if_pos ‹_›] | rw [ownF, if_neg ‹_›]

theorem c_grid_Rule (r : Rl) (o : Int) (s : BitVec 64) (w : World) (hT : Tab w) : Calls Tryd.prog 59 #[.agg (relC r), I o, U s] w (Pure (U (ruleG r o s)) w) := by
 refine enter Tryd.func59 rfl Tryd.ntmps59 rfl ?_
 have hH := Hp.start w
 refine SR ?_
 refine RL.new rfl hH (f := fun b => (.pointer (some ⟨b, 0, none⟩))) (run_box (v := .agg _) rfl) ?_
 intro b3 w1 hH2
 refine RL.new rfl hH2 (f := fun b => (.pointer (some ⟨b, 0, none⟩))) (run_box (v := I _) rfl) ?_
 intro b6 w4 hH5
 refine V (aV (U 0#64) rfl) ?_
 refine RL.nil ?_
 refine CW.seq ?_
 refine SR ?_
 refine V (run_ldRel underlying46 rfl rfl rfl (hH5.blk (i := 1) rfl)) ?_
 refine V (run_ld underlying3 rfl rfl (hH5.cell (i := 0) rfl (v := I _) rfl)) ?_
 refine RL.callP rfl hH5 (c_grid_owns _ _  _) (run_call2 call56 rfl rfl) ?_
 intro w7 hH8
 refine V (run_not rfl) ?_
 refine RL.nil ?_
 refine CW.cond rfl (fun h11 => ?_) (fun h11 => ?_)
 ·refine SR ?_
  refine V (aV (U 0#64) rfl) ?_
  refine RL.nil ?_
  refine CW.ret ?_
  refine outP1 Tryd.results59 (congrArg U ?_) hH8.below
  first | exact (rule_no (nt ‹_›)).symm | (rw [ruleG, if_pos (nf ‹_›)])
 ·refine CW.skip ?_
  refine CW.seq ?_
  refine CW.regionD (by kernel_rfl) hH8 ?_
  intro w12 hH13
  refine AT 0 rfl (hH13.sub sR) (fun w hS => fA underlying46 0 rfl sizeOf3 rfl) ?_
  refine AT 1 rfl (hH13.sub sR) (fun w hS => run_ld underlying3 rfl rfl (hS.cell (i := 1) rfl (relC_N _))) ?_
  refine AT 3 rfl (hH13.sub sR) (fun w hS => run_ldRel underlying46 rfl rfl rfl (hS.blk (i := 1) rfl)) ?_
  refine AT 4 rfl (hH13.sub sR) (fun w hS => mV (U _) rfl) ?_
  refine AN.two 2 7 (by kernel_rfl) ?_ ?_
  ·refine AO.callP rfl gnone rfl hH13 sR (c_mask_Below _  _) (run_call1 call25 rfl) ?_
   intro w14 hH15
   refine AN.two 5 7 (by kernel_rfl) ?_ ?_
   ·refine AO.callP rfl gnone rfl hH15 sR (c_relate_Up _ _  _ (hT.hp hH15)) (run_call2 call74 rfl rfl) ?_
    intro w16 hH17
    refine AT 6 rfl (hH17.sub sR) (fun w hS => run_andNotU rfl rfl) ?_
    refine A1 7 ?_
    refine AO.new rfl gnone rfl hH17 sR (f := fun b => .pointer (some ⟨b, 0, none⟩)) (run_alloc Tryd.zeroValue25) ?_
    intro b20 w18 hH19
    refine A1 8 ?_
    refine AO.set rfl gnone hH19 (j := 0) rfl (sQ sR) (run_st rfl rfl (v := U _) rfl rfl rfl (hH19.blk (i := 0) rfl) (by first | decide | simp)) ?_
    intro w21 hH22
    simp only [z0, z1] at hH22
    refine AD ?_
    refine CW.seq ?_
    refine CW.regionD (by kernel_rfl) hH22 ?_
    intro w23 hH24
    refine AT 0 rfl (hH24.sub sR) (fun w hS => run_ldRel underlying46 rfl rfl rfl (hS.blk (i := 2) rfl)) ?_
    refine AT 1 rfl (hH24.sub sR) (fun w hS => run_ldRel underlying46 rfl rfl rfl (hS.blk (i := 2) rfl)) ?_
    refine AT 2 rfl (hH24.sub sR) (fun w hS => run_mkF2 (by conv => lhs; whnf) (by conv => lhs; whnf)) ?_
    refine A1 3 ?_
    refine AO.callP rfl gnone rfl hH24 sR (c_grid_rows r 82 [.pointer (some ⟨b6, 0, none⟩), .pointer (some ⟨b20, 0, none⟩)] (ownF o (below r.n &&& ~~~upR r s)) (right_spec (own_spec (nf ‹(!ownsG r o) = false›)).1).1 _ call82 (fun i w h _ _ => c_grid_Rule_1 b6 b20 o (below r.n &&& ~~~upR r s) i w (keep h (hH24.blk (i := 1) rfl)) (keep h (hH24.blk (i := 0) rfl)))) (run_call2 call72 rfl rfl) ?_
    intro w25 hH26
    refine A1 4 ?_
    refine AO.callP rfl gnone rfl hH26 sR (c_grid_Close _ _  _ (hT.hp hH26)) (run_call2 call49 rfl rfl) ?_
    intro w27 hH28
    refine AT 5 rfl (hH28.sub sR) (fun w hS => aV (U _) rfl) ?_
    refine AD ?_
    refine CW.ret ?_
    refine outP1 Tryd.results59 (congrArg U ?_) hH28.below
    first | exact (rule_no (nt ‹_›)).symm | (rw [ruleG, if_pos (nf ‹_›)])
   ·refine AO.new rfl gnone rfl hH15 sR (f := fun b => .pointer (some ⟨b, 0, none⟩)) (run_alloc Tryd.zeroValue25) ?_
    intro b31 w29 hH30
    refine A1 5 ?_
    refine AO.callP rfl gnone rfl hH30 (sQ sR) (c_relate_Up _ _  _ (hT.hp hH30)) (run_call2 call74 rfl rfl) ?_
    intro w32 hH33
    refine AT 6 rfl (hH33.sub (sQ sR)) (fun w hS => run_andNotU rfl rfl) ?_
    refine A1 8 ?_
    refine AO.set rfl gnone hH33 (j := 0) rfl (sQ sR) (run_st rfl rfl (v := U _) rfl rfl rfl (hH33.blk (i := 0) rfl) (by first | decide | simp)) ?_
    intro w34 hH35
    simp only [z0, z1] at hH35
    refine AD ?_
    refine CW.seq ?_
    refine CW.regionD (by kernel_rfl) hH35 ?_
    intro w36 hH37
    refine AT 0 rfl (hH37.sub sR) (fun w hS => run_ldRel underlying46 rfl rfl rfl (hS.blk (i := 2) rfl)) ?_
    refine AT 1 rfl (hH37.sub sR) (fun w hS => run_ldRel underlying46 rfl rfl rfl (hS.blk (i := 2) rfl)) ?_
    refine AT 2 rfl (hH37.sub sR) (fun w hS => run_mkF2 (by conv => lhs; whnf) (by conv => lhs; whnf)) ?_
    refine A1 3 ?_
    refine AO.callP rfl gnone rfl hH37 sR (c_grid_rows r 82 [.pointer (some ⟨b6, 0, none⟩), .pointer (some ⟨b31, 0, none⟩)] (ownF o (below r.n &&& ~~~upR r s)) (right_spec (own_spec (nf ‹(!ownsG r o) = false›)).1).1 _ call82 (fun i w h _ _ => c_grid_Rule_1 b6 b31 o (below r.n &&& ~~~upR r s) i w (keep h (hH37.blk (i := 1) rfl)) (keep h (hH37.blk (i := 0) rfl)))) (run_call2 call72 rfl rfl) ?_
    intro w38 hH39
    refine A1 4 ?_
    refine AO.callP rfl gnone rfl hH39 sR (c_grid_Close _ _  _ (hT.hp hH39)) (run_call2 call49 rfl rfl) ?_
    intro w40 hH41
    refine AT 5 rfl (hH41.sub sR) (fun w hS => aV (U _) rfl) ?_
    refine AD ?_
    refine CW.ret ?_
    refine outP1 Tryd.results59 (congrArg U ?_) hH41.below
    first | exact (rule_no (nt ‹_›)).symm | (rw [ruleG, if_pos (nf ‹_›)])
  ·refine AO.new rfl gnone rfl hH13 sR (f := fun b => .pointer (some ⟨b, 0, none⟩)) (run_alloc Tryd.zeroValue25) ?_
   intro b44 w42 hH43
   refine A1 2 ?_
   refine AO.callP rfl gnone rfl hH43 (sQ sR) (c_mask_Below _  _) (run_call1 call25 rfl) ?_
   intro w45 hH46
   refine A1 5 ?_
   refine AO.callP rfl gnone rfl hH46 (sQ sR) (c_relate_Up _ _  _ (hT.hp hH46)) (run_call2 call74 rfl rfl) ?_
   intro w47 hH48
   refine AT 6 rfl (hH48.sub (sQ sR)) (fun w hS => run_andNotU rfl rfl) ?_
   refine A1 8 ?_
   refine AO.set rfl gnone hH48 (j := 0) rfl (sQ sR) (run_st rfl rfl (v := U _) rfl rfl rfl (hH48.blk (i := 0) rfl) (by first | decide | simp)) ?_
   intro w49 hH50
   simp only [z0, z1] at hH50
   refine AD ?_
   refine CW.seq ?_
   refine CW.regionD (by kernel_rfl) hH50 ?_
   intro w51 hH52
   refine AT 0 rfl (hH52.sub sR) (fun w hS => run_ldRel underlying46 rfl rfl rfl (hS.blk (i := 2) rfl)) ?_
   refine AT 1 rfl (hH52.sub sR) (fun w hS => run_ldRel underlying46 rfl rfl rfl (hS.blk (i := 2) rfl)) ?_
   refine AT 2 rfl (hH52.sub sR) (fun w hS => run_mkF2 (by conv => lhs; whnf) (by conv => lhs; whnf)) ?_
   refine A1 3 ?_
   refine AO.callP rfl gnone rfl hH52 sR (c_grid_rows r 82 [.pointer (some ⟨b6, 0, none⟩), .pointer (some ⟨b44, 0, none⟩)] (ownF o (below r.n &&& ~~~upR r s)) (right_spec (own_spec (nf ‹(!ownsG r o) = false›)).1).1 _ call82 (fun i w h _ _ => c_grid_Rule_1 b6 b44 o (below r.n &&& ~~~upR r s) i w (keep h (hH52.blk (i := 1) rfl)) (keep h (hH52.blk (i := 0) rfl)))) (run_call2 call72 rfl rfl) ?_
   intro w53 hH54
   refine A1 4 ?_
   refine AO.callP rfl gnone rfl hH54 sR (c_grid_Close _ _  _ (hT.hp hH54)) (run_call2 call49 rfl rfl) ?_
   intro w55 hH56
   refine AT 5 rfl (hH56.sub sR) (fun w hS => aV (U _) rfl) ?_
   refine AD ?_
   refine CW.ret ?_
   refine outP1 Tryd.results59 (congrArg U ?_) hH56.below
   first | exact (rule_no (nt ‹_›)).symm | (rw [ruleG, if_pos (nf ‹_›)])

theorem c_grid_Readers (r : Rl) (s : BitVec 64) (o : Int) (w : World) : Calls Tryd.prog 34 #[.agg (relC r), U s, I o] w (Pure (U (readersG r s o)) w) := by
 refine enter Tryd.func34 rfl Tryd.ntmps34 rfl ?_
 have hH := Hp.start w
 refine SR ?_
 refine RL.new rfl hH (f := fun b => (.pointer (some ⟨b, 0, none⟩))) (run_box (v := .agg _) rfl) ?_
 intro b3 w1 hH2
 refine V (aV (U 0#64) rfl) ?_
 refine RL.nil ?_
 refine CW.seq ?_
 refine SR ?_
 refine V (run_ldRel underlying46 rfl rfl rfl (hH2.blk (i := 0) rfl)) ?_
 refine V (mV (I _) rfl) ?_
 refine RL.callP rfl hH2 (c_grid_owns _ _  _) (run_call2 call56 rfl rfl) ?_
 intro w4 hH5
 refine V (run_not rfl) ?_
 refine RL.nil ?_
 refine CW.cond rfl (fun h8 => ?_) (fun h8 => ?_)
 ·refine SR ?_
  refine V (aV (U 0#64) rfl) ?_
  refine RL.nil ?_
  refine CW.ret ?_
  refine outP1 Tryd.results34 (congrArg U ?_) hH5.below
  first | exact (read_no (nt ‹_›)).symm | (rw [readersG, if_pos (nf ‹_›)])
 ·refine CW.skip ?_
  refine CW.seq ?_
  refine CW.regionD (by kernel_rfl) hH5 ?_
  intro w9 hH10
  refine AT 0 rfl (hH10.sub sR) (fun w hS => fA underlying46 0 rfl sizeOf3 rfl) ?_
  refine AT 1 rfl (hH10.sub sR) (fun w hS => run_ld underlying3 rfl rfl (hS.cell (i := 0) rfl (relC_N _))) ?_
  refine AT 3 rfl (hH10.sub sR) (fun w hS => run_ldRel underlying46 rfl rfl rfl (hS.blk (i := 0) rfl)) ?_
  refine AT 4 rfl (hH10.sub sR) (fun w hS => mV (U _) rfl) ?_
  refine AT 5 rfl (hH10.sub sR) (fun w hS => mV (I _) rfl) ?_
  refine A1 2 ?_
  refine AO.callP rfl gnone rfl hH10 sR (c_mask_Below _  _) (run_call1 call25 rfl) ?_
  intro w11 hH12
  refine A1 6 ?_
  refine AO.callP rfl gnone rfl hH12 sR (c_grid_row _ _ _ (own_lt (nf ‹(!ownsG r o) = false›)) _) (run_call3 call54 rfl rfl rfl) ?_
  intro w13 hH14
  refine AT 7 rfl (hH14.sub sR) (fun w hS => run_andNotU rfl rfl) ?_
  refine AT 8 rfl (hH14.sub sR) (fun w hS => aV (U _) rfl) ?_
  refine AD ?_
  refine CW.ret ?_
  refine outP1 Tryd.results34 (congrArg U ?_) hH14.below
  first | exact (read_no (nt ‹_›)).symm | (rw [readersG, if_pos (nf ‹_›)])

theorem c_grid_Owners (r : Rl) (s : BitVec 64) (w : World) : Calls Tryd.prog 33 #[.agg (relC r), U s] w (Pure (U (ownersG r s)) w) := by
 refine enter Tryd.func33 rfl Tryd.ntmps33 rfl ?_
 have hH := Hp.start w
 refine SR ?_
 refine RL.new rfl hH (f := fun b => (.pointer (some ⟨b, 0, none⟩))) (run_box (v := .agg _) rfl) ?_
 intro b3 w1 hH2
 refine V (aV (U 0#64) rfl) ?_
 refine RL.nil ?_
 refine SR ?_
 refine V (aV (U 0#64) rfl) ?_
 refine RL.nil ?_
 refine CW.seq ?_
 refine SR ?_
 refine V (run_ldRel underlying46 rfl rfl rfl (hH2.blk (i := 0) rfl)) ?_
 refine RL.callP rfl hH2 (c_grid_Right _  _) (run_call1 call47 rfl) ?_
 intro w4 hH5
 refine V (run_not rfl) ?_
 refine RL.nil ?_
 refine CW.cond rfl (fun h8 => ?_) (fun h8 => ?_)
 ·refine SR ?_
  refine V (aV (U 0#64) rfl) ?_
  refine RL.nil ?_
  refine CW.ret ?_
  refine outP1 Tryd.results33 (congrArg U ?_) hH5.below
  first | exact (owner_no (nt ‹_›)).symm | exact owner_yes hr (by omega)
 ·refine CW.skip ?_
  refine CW.seq ?_
  refine SR ?_
  refine V (fA underlying46 0 rfl sizeOf3 rfl) ?_
  refine V (run_ld underlying3 rfl rfl (hH5.cell (i := 0) rfl (relC_N _))) ?_
  refine V (mV (I 0) rfl) ?_
  refine RL.nil ?_
  refine CW.block ?_
  have hr : rightG r = true := nf ‹_›
  have hs := right_spec hr
  refine CW.loop (G := (Int)) (fun (k : Int) s' w' => (Fr [5, 6, 12, 13, 14, 15, 16, 17, 18, 19, 20, 21, 22, 23] _ s') ∧ (Hp w w' _) ∧ (s' 5 = U (ofl (ownL r s k))) ∧ (s' 12 = I k) ∧ (0 ≤ k) ∧ (k ≤ r.n)) (fun (k : Int) => (r.n - k).toNat) (0) ⟨Fr.refl _ _, hH5, (congrArg U (by rfl)), rfl, (by omega), (by omega)⟩ ?_
  rintro k sg9 w9 ⟨fr9, hH9, e5_9, e12_9, h0, hk⟩
  have e1_9 : sg9 1 = U _ := (fr9 1 rfl).trans rfl
  have e2_9 : sg9 2 = Pn _ _ := (fr9 2 rfl).trans rfl
  have e4_9 : sg9 4 = U _ := (fr9 4 rfl).trans rfl
  have e11_9 : sg9 11 = I _ := (fr9 11 rfl).trans rfl
  refine SR ?_
  refine V (run_lss e12_9 e11_9) ?_
  refine RL.nil ?_
  refine CW.seq ?_
  refine CW.condP rfl (fun h11 => ?_) (fun h11 => ?_)
  ·refine CW.skip ?_
   refine CW.seq ?_
   refine CW.block ?_
   refine SR ?_
   refine V (run_move e12_9) ?_
   refine V (aV (I _) rfl) ?_
   refine RL.nil ?_
   refine SR ?_
   refine V (run_ldRel underlying46 rfl rfl e2_9 (hH9.blk (i := 0) rfl)) ?_
   refine V (run_move e1_9) ?_
   refine V (mV (I _) rfl) ?_
   refine RL.callP rfl hH9 (c_grid_row _ _ _ (by omega) _) (run_call3 call54 rfl rfl rfl) ?_
   intro w12 hH13
   refine V (run_neqU rfl (b := 0#64) rfl) ?_
   refine RL.nil ?_
   refine CW.condP rfl (fun h15 => ?_) (fun h15 => ?_)
   ·refine CW.region ?_
    refine V (run_move e5_9) ?_
    refine V (mV (I _) rfl) ?_
    refine RL.callP rfl hH13 (c_mask_With _ _  _) (run_call2 call55 rfl rfl) ?_
    intro w16 hH17
    refine V (aV (U _) rfl) ?_
    refine RL.nil ?_
    refine CW.region ?_
    refine V (run_add e12_9 rfl (by omega)) ?_
    refine V (mV (I _) rfl) ?_
    refine RL.nil ?_
    refine ⟨k + 1, ?_, fr9.u4.u4.u4.u1.u1, hH17, (congrArg U (by first | (rw [withB_ofl, ownL_yes h0 ‹_›]) | (rw [ownL_no h0 ‹_›]))), (congrArg I (by first | rfl | omega)), ?_, ?_⟩
    ·((try dsimp only); omega)
    ·omega
    ·omega
   ·refine CW.skip ?_
    refine CW.region ?_
    refine V (run_add e12_9 rfl (by omega)) ?_
    refine V (mV (I _) rfl) ?_
    refine RL.nil ?_
    refine ⟨k + 1, ?_, fr9.u4.u4.u1.u1, hH13, (Eq.trans e5_9 (congrArg U (by first | (rw [withB_ofl, ownL_yes h0 ‹_›]) | (rw [ownL_no h0 ‹_›])))), (congrArg I (by first | rfl | omega)), ?_, ?_⟩
    ·((try dsimp only); omega)
    ·omega
    ·omega
  ·refine CW.exit (id := 0) rfl ?_
   refine SR ?_
   refine V (run_move e5_9) ?_
   refine V (aV (U _) rfl) ?_
   refine RL.nil ?_
   refine CW.ret ?_
   refine outP1 Tryd.results33 (congrArg U ?_) hH9.below
   first | exact (owner_no (nt ‹_›)).symm | exact owner_yes hr (by omega)

theorem c_name_letter (c : Int) (w : World) : Calls Tryd.prog 61 #[.int .u8 c] w (Pure (B (letterB c)) w) := by
 refine enter Tryd.func61 rfl Tryd.ntmps61 rfl ?_
 have hH := Hp.start w
 refine SR ?_
 refine V (aV (B false) rfl) ?_
 refine RL.nil ?_
 refine SR ?_
 refine V (mV (.int _ _) rfl) ?_
 refine V (run_geq rfl rfl) ?_
 refine V (mV (B _) rfl) ?_
 refine RL.splitP (dj := 5) rfl (fun h2 => ?_) (fun h2 => ?_)
 ·refine RL.gT rfl (bT h2) ?_
  refine V (mV (.int _ _) rfl) ?_
  refine RL.gT rfl (bT h2) ?_
  refine V (run_leq rfl rfl) ?_
  refine V (run_pickT (bT h2) (v := B _) rfl) ?_
  refine V (aV (B _) rfl) ?_
  refine RL.nil ?_
  refine CW.ret ?_
  refine outP1 Tryd.results61 (congrArg B ?_) hH.below
  (rw [letterB, Bool.eq_iff_iff]; simp only [decide_eq_true_eq, Bool.false_eq_true, false_iff]; omega)
 ·refine RL.gF rfl rfl (bF h2) rfl ?_
  refine RL.gF rfl rfl (bF h2) rfl ?_
  refine V (run_pickF (bF h2) (v := B false) rfl) ?_
  refine V (aV (B _) rfl) ?_
  refine RL.nil ?_
  refine CW.ret ?_
  refine outP1 Tryd.results61 (congrArg B ?_) hH.below
  (rw [letterB, Bool.eq_iff_iff]; simp only [decide_eq_true_eq, Bool.false_eq_true, false_iff]; omega)

theorem c_name_goes (c : Int) (w : World) : Calls Tryd.prog 62 #[.int .u8 c] w (Pure (B (goesB c)) w) := by
 refine enter Tryd.func62 rfl Tryd.ntmps62 rfl ?_
 have hH := Hp.start w
 refine SR ?_
 refine V (aV (B false) rfl) ?_
 refine RL.nil ?_
 refine SR ?_
 refine V (mV (.int _ _) rfl) ?_
 refine RL.callP rfl hH (c_name_letter _  _) (run_call1 call61 rfl) ?_
 intro w1 hH2
 refine V (mV (B _) rfl) ?_
 refine RL.split (dj := 5) rfl (fun h4 => ?_) (fun h4 => ?_)
 ·refine RL.gF rfl rfl (bR (c := true) h4) rfl ?_
  refine RL.gF rfl rfl (bR (c := true) h4) rfl ?_
  refine RL.gF rfl rfl (bR (c := true) h4) rfl ?_
  refine RL.gU rfl rfl rfl ?_
  refine RL.gU rfl rfl rfl ?_
  refine RL.gF rfl rfl (bR (c := true) h4) rfl ?_
  refine V (run_pickT (bR (c := true) h4) (v := B true) rfl) ?_
  refine V (mV (B _) rfl) ?_
  refine RL.gF rfl rfl rfl rfl ?_
  refine RL.gF rfl rfl rfl rfl ?_
  refine V (run_pickT rfl (v := B true) rfl) ?_
  refine V (aV (B _) rfl) ?_
  refine RL.nil ?_
  refine CW.ret ?_
  refine outP1 Tryd.results62 (congrArg B ?_) hH2.below
  first | exact (goes_letter ‹_›).symm | (have hlc := ‹letterB c = false›; rw [letterB, decide_eq_false_iff_not] at hlc; rw [goesB, Bool.eq_iff_iff]; simp only [decide_eq_true_eq, Bool.false_eq_true, false_iff, true_iff]; omega)
 ·refine RL.gT rfl (bR (c := false) h4) ?_
  refine V (mV (.int _ _) rfl) ?_
  refine RL.gT rfl (bR (c := false) h4) ?_
  refine V (run_geq rfl rfl) ?_
  refine RL.gT rfl (bR (c := false) h4) ?_
  refine V (mV (B _) rfl) ?_
  refine RL.splitP (dj := 8) rfl (fun h6 => ?_) (fun h6 => ?_)
  ·refine RL.gT rfl (bT h6) ?_
   refine V (mV (.int _ _) rfl) ?_
   refine RL.gT rfl (bT h6) ?_
   refine V (run_leq rfl rfl) ?_
   refine RL.gT rfl (bR (c := false) h4) ?_
   refine V (run_pickT (bT h6) (v := B _) rfl) ?_
   refine V (run_pickF (bR (c := false) h4) (v := B _) rfl) ?_
   refine V (mV (B _) rfl) ?_
   refine RL.splitP (dj := 13) rfl (fun h8 => ?_) (fun h8 => ?_)
   ·refine RL.gF rfl rfl (bT h8) rfl ?_
    refine RL.gF rfl rfl (bT h8) rfl ?_
    refine V (run_pickT (bT h8) (v := B true) rfl) ?_
    refine V (aV (B _) rfl) ?_
    refine RL.nil ?_
    refine CW.ret ?_
    refine outP1 Tryd.results62 (congrArg B ?_) hH2.below
    first | exact (goes_letter ‹_›).symm | (have hlc := ‹letterB c = false›; rw [letterB, decide_eq_false_iff_not] at hlc; rw [goesB, Bool.eq_iff_iff]; simp only [decide_eq_true_eq, Bool.false_eq_true, false_iff, true_iff]; omega)
   ·refine RL.gT rfl (bF h8) ?_
    refine V (mV (.int _ _) rfl) ?_
    refine RL.gT rfl (bF h8) ?_
    refine V (run_eql rfl rfl) ?_
    refine V (run_pickF (bF h8) (v := B _) rfl) ?_
    refine V (aV (B _) rfl) ?_
    refine RL.nil ?_
    refine CW.ret ?_
    refine outP1 Tryd.results62 (congrArg B ?_) hH2.below
    first | exact (goes_letter ‹_›).symm | (have hlc := ‹letterB c = false›; rw [letterB, decide_eq_false_iff_not] at hlc; rw [goesB, Bool.eq_iff_iff]; simp only [decide_eq_true_eq, Bool.false_eq_true, false_iff, true_iff]; omega)
  ·refine RL.gF rfl rfl (bF h6) rfl ?_
   refine RL.gF rfl rfl (bF h6) rfl ?_
   refine RL.gT rfl (bR (c := false) h4) ?_
   refine V (run_pickF (bF h6) (v := B false) rfl) ?_
   refine V (run_pickF (bR (c := false) h4) (v := B _) rfl) ?_
   refine V (mV (B _) rfl) ?_
   refine RL.gT rfl rfl ?_
   refine V (mV (.int _ _) rfl) ?_
   refine RL.gT rfl rfl ?_
   refine V (run_eql rfl rfl) ?_
   refine V (run_pickF rfl (v := B _) rfl) ?_
   refine V (aV (B _) rfl) ?_
   refine RL.nil ?_
   refine CW.ret ?_
   refine outP1 Tryd.results62 (congrArg B ?_) hH2.below
   first | exact (goes_letter ‹_›).symm | (have hlc := ‹letterB c = false›; rw [letterB, decide_eq_false_iff_not] at hlc; rw [goesB, Bool.eq_iff_iff]; simp only [decide_eq_true_eq, Bool.false_eq_true, false_iff, true_iff]; omega)

theorem c_name_Right (s : Tx) (w : World) : Calls Tryd.prog 40 #[S s] w (Pure (B (nameR s)) w) := by
 have htx := @tx_nil s
 refine enter Tryd.func40 rfl Tryd.ntmps40 rfl ?_
 have hH := Hp.start w
 refine SR ?_
 refine V (aV (B false) rfl) ?_
 refine RL.nil ?_
 refine CW.seq ?_
 refine SR ?_
 refine V (mV (.string _) rfl) ?_
 refine V (run_eqlS rfl rfl) ?_
 refine V (mV (B _) rfl) ?_
 refine RL.splitP (dj := 6) rfl (fun h2 => ?_) (fun h2 => ?_)
 ·refine RL.gF rfl rfl (bT h2) rfl ?_
  refine RL.gF rfl rfl (bT h2) rfl ?_
  refine RL.gF rfl rfl (bT h2) rfl ?_
  refine V (run_pickT (bT h2) (v := B true) rfl) ?_
  refine V (mV (B _) rfl) ?_
  refine RL.gF rfl rfl rfl rfl ?_
  refine RL.gF rfl rfl rfl rfl ?_
  refine RL.gF rfl rfl rfl rfl ?_
  refine RL.gF rfl rfl rfl rfl ?_
  refine V (run_pickT rfl (v := B true) rfl) ?_
  refine RL.nil ?_
  refine CW.condT rfl ?_
  refine SR ?_
  refine V (aV (B false) rfl) ?_
  refine RL.nil ?_
  refine CW.ret ?_
  refine outP1 Tryd.results40 (congrArg B ?_) hH.below
  first | exact (nameR_no1 (by first | omega | (have := htx.1 ‹s = tx0›; omega))).symm | exact (nameR_no2 (nt ‹_›)).symm | exact (nameR_no3 h0 ‹_› (nt ‹_›)).symm | exact (nameR_yes hsz (nf ‹_›) ‹_› hf).symm
 ·refine RL.gT rfl (bF h2) ?_
  refine V (mV (.string _) rfl) ?_
  refine RL.gT rfl (bF h2) ?_
  refine V (run_lenStr rfl underlying9 rfl) ?_
  refine RL.gT rfl (bF h2) ?_
  refine V (run_gtr rfl rfl) ?_
  refine V (run_pickF (bF h2) (v := B _) rfl) ?_
  refine V (mV (B _) rfl) ?_
  refine RL.splitP (dj := 11) rfl (fun h4 => ?_) (fun h4 => ?_)
  ·refine RL.gF rfl rfl (bT h4) rfl ?_
   refine RL.gF rfl rfl (bT h4) rfl ?_
   refine RL.gF rfl rfl (bT h4) rfl ?_
   refine RL.gF rfl rfl (bT h4) rfl ?_
   refine V (run_pickT (bT h4) (v := B true) rfl) ?_
   refine RL.nil ?_
   refine CW.condT rfl ?_
   refine SR ?_
   refine V (aV (B false) rfl) ?_
   refine RL.nil ?_
   refine CW.ret ?_
   refine outP1 Tryd.results40 (congrArg B ?_) hH.below
   first | exact (nameR_no1 (by first | omega | (have := htx.1 ‹s = tx0›; omega))).symm | exact (nameR_no2 (nt ‹_›)).symm | exact (nameR_no3 h0 ‹_› (nt ‹_›)).symm | exact (nameR_yes hsz (nf ‹_›) ‹_› hf).symm
  ·refine RL.gT rfl (bF h4) ?_
   refine V (mV (.string _) rfl) ?_
   refine RL.gT rfl (bF h4) ?_
   refine V (run_idxS underlying9 rfl rfl (by first | omega | (have := mt htx.2 ‹¬ s = tx0›; omega))) ?_
   refine RL.gT rfl (bF h4) ?_
   refine RL.callP rfl hH (c_name_letter _  _) (run_call1 call61 rfl) ?_
   intro w5 hH6
   refine RL.gT rfl (bF h4) ?_
   refine V (run_not rfl) ?_
   refine V (run_pickF (bF h4) (v := B _) rfl) ?_
   refine RL.nil ?_
   refine CW.cond rfl (fun h9 => ?_) (fun h9 => ?_)
   ·refine SR ?_
    refine V (aV (B false) rfl) ?_
    refine RL.nil ?_
    refine CW.ret ?_
    refine outP1 Tryd.results40 (congrArg B ?_) hH6.below
    first | exact (nameR_no1 (by first | omega | (have := htx.1 ‹s = tx0›; omega))).symm | exact (nameR_no2 (nt ‹_›)).symm | exact (nameR_no3 h0 ‹_› (nt ‹_›)).symm | exact (nameR_yes hsz (nf ‹_›) ‹_› hf).symm
   ·refine CW.skip ?_
    refine CW.seq ?_
    refine SR ?_
    refine V (mV (.string _) rfl) ?_
    refine V (run_lenStr rfl underlying9 rfl) ?_
    refine V (mV (I 0) rfl) ?_
    refine RL.nil ?_
    refine CW.block ?_
    have hsz : 1 ≤ s.size ∧ s.size ≤ 16 := ⟨by have := mt htx.2 ‹¬ s = tx0›; omega, by omega⟩
    refine CW.loop (G := (Int)) (fun (k : Int) s' w' => (Fr [2, 3, 19, 20, 21, 22, 23, 24, 25, 26, 27] _ s') ∧ (Hp w w' _) ∧ (s' 19 = I k) ∧ (0 ≤ k) ∧ (k ≤ s.size) ∧ (∀ j : Int, 0 ≤ j → j < k → goesB (byteAt s j) = true)) (fun (k : Int) => (s.size - k).toNat) (0) ⟨Fr.refl _ _, hH6, rfl, (by omega), (by omega), fun j a b => absurd b (by omega)⟩ ?_
    rintro k sg10 w10 ⟨fr10, hH10, e19_10, h0, hk, hf⟩
    have e0_10 : sg10 0 = .string _ := (fr10 0 rfl).trans rfl
    have e18_10 : sg10 18 = I _ := (fr10 18 rfl).trans rfl
    refine SR ?_
    refine V (run_lss e19_10 e18_10) ?_
    refine RL.nil ?_
    refine CW.seq ?_
    refine CW.condP rfl (fun h12 => ?_) (fun h12 => ?_)
    ·refine CW.skip ?_
     refine CW.seq ?_
     refine CW.block ?_
     refine SR ?_
     refine V (run_move e19_10) ?_
     refine V (aV (I _) rfl) ?_
     refine RL.nil ?_
     refine SR ?_
     refine V (run_move e0_10) ?_
     refine V (mV (I _) rfl) ?_
     refine V (run_idxS underlying9 rfl rfl (by first | omega | (have := mt htx.2 ‹¬ s = tx0›; omega))) ?_
     refine RL.callP rfl hH10 (c_name_goes _  _) (run_call1 call62 rfl) ?_
     intro w13 hH14
     refine V (run_not rfl) ?_
     refine RL.nil ?_
     refine CW.cond rfl (fun h17 => ?_) (fun h17 => ?_)
     ·refine SR ?_
      refine V (aV (B false) rfl) ?_
      refine RL.nil ?_
      refine CW.ret ?_
      refine outP1 Tryd.results40 (congrArg B ?_) hH14.below
      first | exact (nameR_no1 (by first | omega | (have := htx.1 ‹s = tx0›; omega))).symm | exact (nameR_no2 (nt ‹_›)).symm | exact (nameR_no3 h0 ‹_› (nt ‹_›)).symm | exact (nameR_yes hsz (nf ‹_›) ‹_› hf).symm
     ·refine CW.skip ?_
      refine CW.region ?_
      refine V (run_add e19_10 rfl (by omega)) ?_
      refine V (mV (I _) rfl) ?_
      refine RL.nil ?_
      refine ⟨k + 1, ?_, fr10.u4.u4.u1.u1, hH14, (congrArg I (by first | rfl | omega)), ?_, ?_, ?_⟩
      ·((try dsimp only); omega)
      ·omega
      ·omega
      ·exact fun j a b => if e : j = k then e ▸ nf ‹_› else hf j a (by omega)
    ·refine CW.exit (id := 0) rfl ?_
     refine SR ?_
     refine V (aV (B true) rfl) ?_
     refine RL.nil ?_
     refine CW.ret ?_
     refine outP1 Tryd.results40 (congrArg B ?_) hH10.below
     first | exact (nameR_no1 (by first | omega | (have := htx.1 ‹s = tx0›; omega))).symm | exact (nameR_no2 (nt ‹_›)).symm | exact (nameR_no3 h0 ‹_› (nt ‹_›)).symm | exact (nameR_yes hsz (nf ‹_›) ‹_› hf).symm

theorem c_name_place (n : Int) (f : FuncId) (cs : List Value) (P : Int → Bool) (hn : 0 ≤ n ∧ n ≤ 9223372036854775807) (w : World) (hf : ∀ args w, (callFunc f args).run Tryd.prog w = .ok (.enter f args) w) (go : ∀ i w', Below w.heap.size w w' → 0 ≤ i → i < n → Calls Tryd.prog f (I i :: cs).toArray w' (Pure (B (P i)) w')) : Calls Tryd.prog 80 #[I 0, I n, .func (.func f) #[] cs.toArray] w (Pure (I (findV P n)) w) := by
 refine enter Tryd.func80 rfl Tryd.ntmps80 rfl ?_
 have hH := Hp.start w
 refine SR ?_
 refine V (aV (I 0) rfl) ?_
 refine RL.nil ?_
 refine CW.seq ?_
 refine SR ?_
 refine V (mV (I _) rfl) ?_
 refine V (aV (I _) rfl) ?_
 refine RL.nil ?_
 refine CW.block ?_
 refine CW.loop (G := (Int)) (fun (k : Int) s' w' => (Fr [6, 7, 9, 10, 11, 12, 13, 14, 15, 16, 17] _ s') ∧ (Hp w w' _) ∧ (s' 7 = I k) ∧ (0 ≤ k) ∧ (k ≤ n) ∧ (∀ j : Int, 0 ≤ j → j < k → P j = false)) (fun (k : Int) => (n - k).toNat) (0) ⟨Fr.refl _ _, hH, rfl, (by omega), (by omega), fun j a b => absurd b (by omega)⟩ ?_
 rintro k sg1 w1 ⟨fr1, hH1, e7_1, h0, hk, hg⟩
 have e1_1 : sg1 1 = I _ := (fr1 1 rfl).trans rfl
 have e2_1 : sg1 2 = .func _ _ _ := (fr1 2 rfl).trans rfl
 refine CW.seq ?_
 refine SR ?_
 refine V (run_move e7_1) ?_
 refine V (run_move e1_1) ?_
 refine V (run_lss rfl rfl) ?_
 refine RL.nil ?_
 refine CW.condP rfl (fun h3 => ?_) (fun h3 => ?_)
 ·refine CW.skip ?_
  refine CW.seq ?_
  refine CW.block ?_
  refine SR ?_
  refine V (run_move e2_1) ?_
  refine V (run_move e7_1) ?_
  refine RL.callP rfl hH1 (go _ _ hH1.below (by omega) (by omega)) (run_callC1 hf (cs := cs) rfl rfl) ?_
  intro w4 hH5
  refine RL.nil ?_
  refine CW.cond rfl (fun h7 => ?_) (fun h7 => ?_)
  ·refine SR ?_
   refine V (run_move e7_1) ?_
   refine V (aV (I _) rfl) ?_
   refine RL.nil ?_
   refine CW.ret ?_
   refine outP1 Tryd.results80 (congrArg I ?_) hH5.below
   first | exact (find_yes h0 ‹_› ‹_› hg).symm | exact (find_no fun j a b => hg j a (by omega)).symm
  ·refine CW.skip ?_
   refine CW.region ?_
   refine V (run_move e7_1) ?_
   refine V (run_add rfl rfl (by omega)) ?_
   refine V (aV (I _) rfl) ?_
   refine RL.nil ?_
   refine ⟨k + 1, ?_, fr1.u4.u4.u1, hH5, (congrArg I (by first | rfl | omega)), ?_, ?_, ?_⟩
   ·((try dsimp only); omega)
   ·omega
   ·omega
   ·exact fun j a b => if e : j = k then e ▸ ‹P k = false› else hg j a (by omega)
 ·refine CW.exit (id := 0) rfl ?_
  refine SR ?_
  refine V (aV (I (-1)) rfl) ?_
  refine RL.nil ?_
  refine CW.ret ?_
  refine outP1 Tryd.results80 (congrArg I ?_) hH1.below
  first | exact (find_yes h0 ‹_› ‹_› hg).symm | exact (find_no fun j a b => hg j a (by omega)).symm

theorem c_name_Find_1 (b c : Nat) (v : Value) (l : List Tx) (s : Tx) (i : Int) (hi : 0 ≤ i ∧ i < l.length) (w : World) (hs : Sl w v 1 l.length (txL l)) (hb : w.heap[b]? = some (.cells #[v] 43 (0, 0))) (hc : w.heap[c]? = some (.cells #[S s] 9 (0, 0))) : Calls Tryd.prog 81 #[I i, .pointer (some ⟨b, 0, none⟩), .pointer (some ⟨c, 0, none⟩)] w (Pure (B (decide (l.getD i.toNat tx0 = s))) w) := by
 have hm := hs.small
 unfold maxLen at hm
 refine enter Tryd.func81 rfl Tryd.ntmps81 rfl ?_
 have hH := Hp.start w
 refine SR ?_
 refine V (aV (B false) rfl) ?_
 refine RL.nil ?_
 refine CW.seq ?_
 refine CW.regionD (by kernel_rfl) hH ?_
 intro w1 hH2
 refine AT 0 rfl (hH2.sub sR) (fun w hS => run_ld underlying43 rfl rfl (hS.extCell hb rfl)) ?_
 refine AT 1 rfl (hH2.sub sR) (fun w hS => mV (I _) rfl) ?_
 refine AT 2 rfl (hH2.sub sR) (fun w hS => run_indexAddrS (hs.hp hS) underlying43 sizeOf9 rfl rfl (by omega)) ?_
 refine AT 3 rfl (hH2.sub sR) (fun w hS => run_ld underlying9 rfl rfl ((hs.hp hS).cell _ _ (txL_at (by omega)))) ?_
 refine AT 4 rfl (hH2.sub sR) (fun w hS => run_ld underlying9 rfl rfl (hS.extCell hc (v := .string _) rfl)) ?_
 refine AT 5 rfl (hH2.sub sR) (fun w hS => run_eqlS rfl rfl) ?_
 refine AT 6 rfl (hH2.sub sR) (fun w hS => aV (B _) rfl) ?_
 refine AD ?_
 refine CW.ret ?_
 refine outP1 Tryd.results81 (congrArg B ?_) hH2.below
 rfl

theorem c_name_Find (v : Value) (l : List Tx) (s : Tx) (w : World) (hs : Sl w v 1 l.length (txL l)) : Calls Tryd.prog 58 #[v, S s] w (Pure (I (nfind l s)) w) := by
 have hm := hs.small
 unfold maxLen at hm
 refine enter Tryd.func58 rfl Tryd.ntmps58 rfl ?_
 have hH := Hp.start w
 refine SR ?_
 refine RL.new rfl hH (f := fun b => (.pointer (some ⟨b, 0, none⟩))) (run_box (by conv => lhs; whnf)) ?_
 intro b3 w1 hH2
 rw [(one_sl hs).2] at hH2
 refine RL.new rfl hH2 (f := fun b => (.pointer (some ⟨b, 0, none⟩))) (run_box (v := .string _) rfl) ?_
 intro b6 w4 hH5
 refine V (aV (I 0) rfl) ?_
 refine RL.nil ?_
 refine SR ?_
 refine V (run_ld underlying43 rfl rfl (hH5.cell (i := 1) rfl rfl)) ?_
 refine V (run_lenSl (hs.hp hH5) rfl underlying43 rfl) ?_
 refine V (run_mkF2 (by conv => lhs; whnf) (by conv => lhs; whnf)) ?_
 refine RL.callP rfl hH5 (c_name_place _ 81 [.pointer (some ⟨b3, 0, none⟩), .pointer (some ⟨b6, 0, none⟩)] (fun i => decide (l.getD i.toNat tx0 = s)) (by omega) _ call81 (fun i w h h0 h1 => c_name_Find_1 b3 b6 v l s i ⟨h0, h1⟩ w ((hs.hp hH5).below h) (keep h (hH5.blk (i := 1) rfl)) (keep h (hH5.blk (i := 0) rfl)))) (run_call3 call80 (show _ = I 0 from rfl) rfl rfl) ?_
 intro w7 hH8
 refine V (aV (I _) rfl) ?_
 refine RL.nil ?_
 refine CW.ret ?_
 refine outP1 Tryd.results58 (congrArg I ?_) hH8.below
 rfl

theorem c_name_Twice_1 (b : Nat) (v : Value) (l : List Tx) (i : Int) (hi : 0 ≤ i ∧ i < l.length) (w : World) (hs : Sl w v 1 l.length (txL l)) (hb : w.heap[b]? = some (.cells #[v] 43 (0, 0))) : Calls Tryd.prog 83 #[I i, .pointer (some ⟨b, 0, none⟩)] w (Pure (B (decide (nfind l (l.getD i.toNat tx0) < i))) w) := by
 have hm := hs.small
 unfold maxLen at hm
 refine enter Tryd.func83 rfl Tryd.ntmps83 rfl ?_
 have hH := Hp.start w
 refine SR ?_
 refine V (aV (B false) rfl) ?_
 refine RL.nil ?_
 refine CW.seq ?_
 refine CW.regionD (by kernel_rfl) hH ?_
 intro w1 hH2
 refine AT 0 rfl (hH2.sub sR) (fun w hS => run_ld underlying43 rfl rfl (hS.extCell hb rfl)) ?_
 refine AT 1 rfl (hH2.sub sR) (fun w hS => mV (I _) rfl) ?_
 refine AT 3 rfl (hH2.sub sR) (fun w hS => run_ld underlying43 rfl rfl (hS.extCell hb rfl)) ?_
 refine AT 4 rfl (hH2.sub sR) (fun w hS => mV (I _) rfl) ?_
 refine AT 5 rfl (hH2.sub sR) (fun w hS => run_indexAddrS (hs.hp hS) underlying43 sizeOf9 rfl rfl (by omega)) ?_
 refine AT 6 rfl (hH2.sub sR) (fun w hS => run_ld underlying9 rfl rfl ((hs.hp hS).cell _ _ (txL_at (by omega)))) ?_
 refine A1 2 ?_
 refine AO.read rfl gnone rfl hH2 sR (run_cut (hs.hp hH2) underlying43 sizeOf9 rfl rfl (by omega)) ?_
 refine A1 7 ?_
 refine AO.callP rfl gnone rfl hH2 sR (c_name_Find _ _ _  _ ((hs.hp hH2).cutT (by omega))) (run_call2 call58 rfl rfl) ?_
 intro w5 hH6
 refine AT 8 rfl (hH6.sub sR) (fun w hS => run_geq rfl rfl) ?_
 refine AT 9 rfl (hH6.sub sR) (fun w hS => aV (B _) rfl) ?_
 refine AD ?_
 refine CW.ret ?_
 refine outP1 Tryd.results83 (congrArg B ?_) hH6.below
 exact tx_ahead hi.1 hi.2

theorem c_name_Twice (v : Value) (l : List Tx) (w : World) (hs : Sl w v 1 l.length (txL l)) : Calls Tryd.prog 66 #[v] w (Pure (I (twice l)) w) := by
 have hm := hs.small
 unfold maxLen at hm
 refine enter Tryd.func66 rfl Tryd.ntmps66 rfl ?_
 have hH := Hp.start w
 refine SR ?_
 refine RL.new rfl hH (f := fun b => (.pointer (some ⟨b, 0, none⟩))) (run_box (by conv => lhs; whnf)) ?_
 intro b3 w1 hH2
 rw [(one_sl hs).2] at hH2
 refine V (aV (I 0) rfl) ?_
 refine RL.nil ?_
 refine SR ?_
 refine V (run_ld underlying43 rfl rfl (hH2.cell (i := 0) rfl rfl)) ?_
 refine V (run_lenSl (hs.hp hH2) rfl underlying43 rfl) ?_
 refine V (run_mkF1 (by conv => lhs; whnf)) ?_
 refine RL.callP rfl hH2 (c_name_place _ 83 [.pointer (some ⟨b3, 0, none⟩)] (fun i => decide (nfind l (l.getD i.toNat tx0) < i)) (by omega) _ call83 (fun i w h h0 h1 => c_name_Twice_1 b3 v l i ⟨h0, h1⟩ w ((hs.hp hH2).below h) (keep h (hH2.blk (i := 0) rfl)))) (run_call3 call80 (show _ = I 0 from rfl) rfl rfl) ?_
 intro w4 hH5
 refine V (aV (I _) rfl) ?_
 refine RL.nil ?_
 refine CW.ret ?_
 refine outP1 Tryd.results66 (congrArg I ?_) hH5.below
 rfl

theorem c_shape_named (v : Value) (l : List Tx) (w : World) (hs : Sl w v 1 l.length (txL l)) : Calls Tryd.prog 45 #[v] w (Pure (B (namedF l)) w) := by
 have hm := hs.small
 unfold maxLen at hm
 refine enter Tryd.func45 rfl Tryd.ntmps45 rfl ?_
 have hH := Hp.start w
 refine SR ?_
 refine V (aV (B false) rfl) ?_
 refine RL.nil ?_
 refine CW.seq ?_
 refine SR ?_
 refine V (run_move (by conv => lhs; whnf)) ?_
 refine V (run_lenSl (hs.hp hH) rfl underlying43 rfl) ?_
 refine V (run_lss rfl rfl) ?_
 refine V (mV (B _) rfl) ?_
 refine RL.splitP (dj := 8) rfl (fun h2 => ?_) (fun h2 => ?_)
 ·refine RL.gF rfl rfl (bT h2) rfl ?_
  refine RL.gF rfl rfl (bT h2) rfl ?_
  refine RL.gF rfl rfl (bT h2) rfl ?_
  refine V (run_pickT (bT h2) (v := B true) rfl) ?_
  refine V (mV (B _) rfl) ?_
  refine RL.gF rfl rfl rfl rfl ?_
  refine RL.gF rfl rfl rfl rfl ?_
  refine RL.gF rfl rfl rfl rfl ?_
  refine V (run_pickT rfl (v := B true) rfl) ?_
  refine RL.nil ?_
  refine CW.condT rfl ?_
  refine SR ?_
  refine V (aV (B false) rfl) ?_
  refine RL.nil ?_
  refine CW.ret ?_
  refine outP1 Tryd.results45 (congrArg B ?_) hH.below
  first | exact (named_no3 h0 ‹_› (nt ‹_›)).symm | exact (named_yes hn1 hn2 ‹_› hg).symm | exact (named_no1 (by omega)).symm | exact (named_no2 (by omega)).symm
 ·refine RL.gT rfl (bF h2) ?_
  refine V (run_move (by conv => lhs; whnf)) ?_
  refine RL.gT rfl (bF h2) ?_
  refine V (run_lenSl (hs.hp hH) rfl underlying43 rfl) ?_
  refine RL.gT rfl (bF h2) ?_
  refine V (run_gtr rfl rfl) ?_
  refine V (run_pickF (bF h2) (v := B _) rfl) ?_
  refine V (mV (B _) rfl) ?_
  refine RL.splitP (dj := 13) rfl (fun h4 => ?_) (fun h4 => ?_)
  ·refine RL.gF rfl rfl (bT h4) rfl ?_
   refine RL.gF rfl rfl (bT h4) rfl ?_
   refine RL.gF rfl rfl (bT h4) rfl ?_
   refine V (run_pickT (bT h4) (v := B true) rfl) ?_
   refine RL.nil ?_
   refine CW.condT rfl ?_
   refine SR ?_
   refine V (aV (B false) rfl) ?_
   refine RL.nil ?_
   refine CW.ret ?_
   refine outP1 Tryd.results45 (congrArg B ?_) hH.below
   first | exact (named_no3 h0 ‹_› (nt ‹_›)).symm | exact (named_yes hn1 hn2 ‹_› hg).symm | exact (named_no1 (by omega)).symm | exact (named_no2 (by omega)).symm
  ·refine RL.gT rfl (bF h4) ?_
   refine V (run_move (by conv => lhs; whnf)) ?_
   refine RL.gT rfl (bF h4) ?_
   refine RL.callP rfl hH (c_name_Twice _ _  _ (hs.hp hH)) (run_call1 call66 rfl) ?_
   intro w5 hH6
   refine RL.gT rfl (bF h4) ?_
   refine V (run_geq rfl rfl) ?_
   refine V (run_pickF (bF h4) (v := B _) rfl) ?_
   refine RL.nil ?_
   refine CW.condP rfl (fun h8 => ?_) (fun h8 => ?_)
   ·refine SR ?_
    refine V (aV (B false) rfl) ?_
    refine RL.nil ?_
    refine CW.ret ?_
    refine outP1 Tryd.results45 (congrArg B ?_) hH6.below
    first | exact (named_no3 h0 ‹_› (nt ‹_›)).symm | exact (named_yes hn1 hn2 ‹_› hg).symm | exact (named_no1 (by omega)).symm | exact (named_no2 (by omega)).symm
   ·refine CW.skip ?_
    refine CW.seq ?_
    refine SR ?_
    refine V (run_move (by conv => lhs; whnf)) ?_
    refine V (run_lenSl (hs.hp hH6) rfl underlying43 rfl) ?_
    refine V (mV (I 0) rfl) ?_
    refine RL.nil ?_
    refine CW.block ?_
    have hn1 : 1 ≤ l.length ∧ l.length ≤ 64 := by omega
    have hn2 : twice l < 0 := by omega
    refine CW.loop (G := (Int)) (fun (k : Int) s' w' => (Fr [2, 4, 20, 21, 22, 23, 24, 25, 26, 27] _ s') ∧ (Hp w w' _) ∧ (s' 20 = I k) ∧ (0 ≤ k) ∧ (k ≤ l.length) ∧ (∀ j : Int, 0 ≤ j → j < k → nameR (l.getD j.toNat tx0) = true)) (fun (k : Int) => (l.length - k).toNat) (0) ⟨Fr.refl _ _, hH6, rfl, (by omega), (by omega), fun j a b => absurd b (by omega)⟩ ?_
    rintro k sg9 w9 ⟨fr9, hH9, e20_9, h0, hk, hg⟩
    have e18_9 := (fr9 18 rfl).trans (by conv => lhs; whnf)
    have e19_9 : sg9 19 = I _ := (fr9 19 rfl).trans rfl
    refine SR ?_
    refine V (run_lss e20_9 e19_9) ?_
    refine RL.nil ?_
    refine CW.seq ?_
    refine CW.condP rfl (fun h11 => ?_) (fun h11 => ?_)
    ·refine CW.skip ?_
     refine CW.seq ?_
     refine CW.block ?_
     refine SR ?_
     refine V (run_indexAddrS (hs.hp hH9) underlying43 sizeOf9 e18_9 e20_9 (by omega)) ?_
     refine V (run_ld underlying9 rfl rfl ((hs.hp hH9).cell _ _ (txL_at (by omega)))) ?_
     refine V (aV (.string _) rfl) ?_
     refine RL.nil ?_
     refine SR ?_
     refine V (mV (.string _) rfl) ?_
     refine RL.callP rfl hH9 (c_name_Right _  _) (run_call1 call40 rfl) ?_
     intro w12 hH13
     refine V (run_not rfl) ?_
     refine RL.nil ?_
     refine CW.cond rfl (fun h16 => ?_) (fun h16 => ?_)
     ·refine SR ?_
      refine V (aV (B false) rfl) ?_
      refine RL.nil ?_
      refine CW.ret ?_
      refine outP1 Tryd.results45 (congrArg B ?_) hH13.below
      first | exact (named_no3 h0 ‹_› (nt ‹_›)).symm | exact (named_yes hn1 hn2 ‹_› hg).symm | exact (named_no1 (by omega)).symm | exact (named_no2 (by omega)).symm
     ·refine CW.skip ?_
      refine CW.region ?_
      refine V (run_add e20_9 rfl (by omega)) ?_
      refine V (mV (I _) rfl) ?_
      refine RL.nil ?_
      refine ⟨k + 1, ?_, fr9.u4.u4.u1, hH13, (congrArg I (by first | rfl | omega)), ?_, ?_, ?_⟩
      ·((try dsimp only); omega)
      ·omega
      ·omega
      ·exact fun j a b => if e : j = k then e ▸ nf ‹_› else hg j a (by omega)
    ·refine CW.exit (id := 0) rfl ?_
     refine SR ?_
     refine V (aV (B true) rfl) ?_
     refine RL.nil ?_
     refine CW.ret ?_
     refine outP1 Tryd.results45 (congrArg B ?_) hH9.below
     first | exact (named_no3 h0 ‹_› (nt ‹_›)).symm | exact (named_yes hn1 hn2 ‹_› hg).symm | exact (named_no1 (by omega)).symm | exact (named_no2 (by omega)).symm

theorem c_shape_factor (f : Fac) (w : World) (hf : FacV (Kw w) f) (hT : Tab w) : Calls Tryd.prog 22 #[.agg (facC f)] w (Pure (B (factorR f.fc)) w) := by
 have hm := hf.names.sl.small
 unfold maxLen at hm
 refine enter Tryd.func22 rfl Tryd.ntmps22 rfl ?_
 have hH := Hp.start w
 refine SR ?_
 refine RL.new rfl hH (f := fun b => (.pointer (some ⟨b, 0, none⟩))) (run_box (v := .agg _) rfl) ?_
 intro b3 w1 hH2
 refine V (aV (B false) rfl) ?_
 refine RL.nil ?_
 refine CW.seq ?_
 refine SR ?_
 refine V (fA underlying48 1 rfl sizeOf43 rfl) ?_
 refine V (run_ld underlying43 rfl rfl (hH2.cell (i := 0) rfl rfl)) ?_
 refine RL.callP rfl hH2 (c_shape_named _ _  _ (hf.names.sl.hp hH2)) (run_call1 call45 rfl) ?_
 intro w4 hH5
 refine V (run_not rfl) ?_
 refine RL.nil ?_
 refine CW.cond rfl (fun h8 => ?_) (fun h8 => ?_)
 ·refine SR ?_
  refine V (aV (B false) rfl) ?_
  refine RL.nil ?_
  refine CW.ret ?_
  refine outP1 Tryd.results22 (congrArg B ?_) hH5.below
  first | exact (fac_no (f := f.fc) (nt ‹_›)).symm | exact (fac_12s (f := f.fc) (nf ‹(!namedF f.names) = false›) (.inl ‹_›)).symm | exact (fac_12s (f := f.fc) (nf ‹(!namedF f.names) = false›) (.inr ‹_›)).symm | exact (fac_3y (f := f.fc) (nf ‹(!namedF f.names) = false›) ‹_› ‹_›).symm | exact (fac_3n (f := f.fc) ‹_› ‹_›).symm | exact (fac_4y (f := f.fc) (nf ‹(!namedF f.names) = false›) ‹_› ‹_›).symm | exact (fac_4n (f := f.fc) ‹_› ‹_›).symm | exact (fac_x (f := f.fc) ‹_› ‹_› ‹_› ‹_›).symm
 ·refine CW.skip ?_
  refine CW.seq ?_
  refine SR ?_
  refine V (fA underlying48 0 rfl sizeOf3 rfl) ?_
  refine V (run_ld underlying3 rfl rfl (hH5.cell (i := 0) rfl (v := I _) rfl)) ?_
  refine RL.nil ?_
  refine CW.block ?_
  refine CW.seq ?_
  refine SR ?_
  refine V (run_eql rfl rfl) ?_
  refine V (aV (B _) rfl) ?_
  refine RL.nil ?_
  refine CW.condP rfl (fun h10 => ?_) (fun h10 => ?_)
  ·refine CW.skip ?_
   refine CW.condT (bT h10) ?_
   refine SR ?_
   refine V (fA underlying48 2 rfl sizeOf46 rfl) ?_
   refine V (run_ldBR underlying46 rfl rfl rfl (hH5.blk (i := 0) rfl)) ?_
   refine V (run_bld (vs := []) rfl built_rel0) ?_
   refine RL.callP rfl hH5 (c_relate_Same _ _  _) (run_call2 call46 rfl rfl) ?_
   intro w11 hH12
   refine V (aV (B _) rfl) ?_
   refine RL.nil ?_
   refine CW.ret ?_
   refine outP1 Tryd.results22 (congrArg B ?_) hH12.below
   first | exact (fac_no (f := f.fc) (nt ‹_›)).symm | exact (fac_12s (f := f.fc) (nf ‹(!namedF f.names) = false›) (.inl ‹_›)).symm | exact (fac_12s (f := f.fc) (nf ‹(!namedF f.names) = false›) (.inr ‹_›)).symm | exact (fac_3y (f := f.fc) (nf ‹(!namedF f.names) = false›) ‹_› ‹_›).symm | exact (fac_3n (f := f.fc) ‹_› ‹_›).symm | exact (fac_4y (f := f.fc) (nf ‹(!namedF f.names) = false›) ‹_› ‹_›).symm | exact (fac_4n (f := f.fc) ‹_› ‹_›).symm | exact (fac_x (f := f.fc) ‹_› ‹_› ‹_› ‹_›).symm
  ·refine CW.region ?_
   refine V (run_eql rfl rfl) ?_
   refine V (aV (B _) rfl) ?_
   refine RL.nil ?_
   refine CW.condP rfl (fun h16 => ?_) (fun h16 => ?_)
   ·refine SR ?_
    refine V (fA underlying48 2 rfl sizeOf46 rfl) ?_
    refine V (run_ldBR underlying46 rfl rfl rfl (hH5.blk (i := 0) rfl)) ?_
    refine V (run_bld (vs := []) rfl built_rel0) ?_
    refine RL.callP rfl hH5 (c_relate_Same _ _  _) (run_call2 call46 rfl rfl) ?_
    intro w17 hH18
    refine V (aV (B _) rfl) ?_
    refine RL.nil ?_
    refine CW.ret ?_
    refine outP1 Tryd.results22 (congrArg B ?_) hH18.below
    first | exact (fac_no (f := f.fc) (nt ‹_›)).symm | exact (fac_12s (f := f.fc) (nf ‹(!namedF f.names) = false›) (.inl ‹_›)).symm | exact (fac_12s (f := f.fc) (nf ‹(!namedF f.names) = false›) (.inr ‹_›)).symm | exact (fac_3y (f := f.fc) (nf ‹(!namedF f.names) = false›) ‹_› ‹_›).symm | exact (fac_3n (f := f.fc) ‹_› ‹_›).symm | exact (fac_4y (f := f.fc) (nf ‹(!namedF f.names) = false›) ‹_› ‹_›).symm | exact (fac_4n (f := f.fc) ‹_› ‹_›).symm | exact (fac_x (f := f.fc) ‹_› ‹_› ‹_› ‹_›).symm
   ·refine SR ?_
    refine V (run_eql rfl rfl) ?_
    refine V (aV (B _) rfl) ?_
    refine RL.nil ?_
    refine CW.condP rfl (fun h22 => ?_) (fun h22 => ?_)
    ·refine SR ?_
     refine V (fA underlying48 2 rfl sizeOf46 rfl) ?_
     refine V (fA underlying46 0 rfl sizeOf3 rfl) ?_
     refine V (run_ld underlying3 rfl rfl (hH5.cell (i := 0) rfl (v := I _) rfl)) ?_
     refine V (fA underlying48 1 rfl sizeOf43 rfl) ?_
     refine V (run_ld underlying43 rfl rfl (hH5.cell (i := 0) rfl rfl)) ?_
     refine V (run_lenSl (hf.names.sl.hp hH5) rfl underlying43 rfl) ?_
     refine V (run_eql rfl rfl) ?_
     refine V (mV (B _) rfl) ?_
     refine RL.splitP (dj := 25) rfl (fun h24 => ?_) (fun h24 => ?_)
     ·refine RL.gT rfl (bT h24) ?_
      refine V (fA underlying48 2 rfl sizeOf46 rfl) ?_
      refine RL.gT rfl (bT h24) ?_
      refine V (run_ldBR underlying46 rfl rfl rfl (hH5.blk (i := 0) rfl)) ?_
      refine RL.gT rfl (bT h24) ?_
      refine RL.callP rfl hH5 (c_grid_Right _  _) (run_call1 call47 rfl) ?_
      intro w25 hH26
      refine V (run_pickT (bT h24) (v := B _) rfl) ?_
      refine V (aV (B _) rfl) ?_
      refine RL.nil ?_
      refine CW.ret ?_
      refine outP1 Tryd.results22 (congrArg B ?_) hH26.below
      first | exact (fac_no (f := f.fc) (nt ‹_›)).symm | exact (fac_12s (f := f.fc) (nf ‹(!namedF f.names) = false›) (.inl ‹_›)).symm | exact (fac_12s (f := f.fc) (nf ‹(!namedF f.names) = false›) (.inr ‹_›)).symm | exact (fac_3y (f := f.fc) (nf ‹(!namedF f.names) = false›) ‹_› ‹_›).symm | exact (fac_3n (f := f.fc) ‹_› ‹_›).symm | exact (fac_4y (f := f.fc) (nf ‹(!namedF f.names) = false›) ‹_› ‹_›).symm | exact (fac_4n (f := f.fc) ‹_› ‹_›).symm | exact (fac_x (f := f.fc) ‹_› ‹_› ‹_› ‹_›).symm
     ·refine RL.gF rfl rfl (bF h24) rfl ?_
      refine RL.gF rfl rfl (bF h24) rfl ?_
      refine RL.gF rfl rfl (bF h24) rfl ?_
      refine V (run_pickF (bF h24) (v := B false) rfl) ?_
      refine V (aV (B _) rfl) ?_
      refine RL.nil ?_
      refine CW.ret ?_
      refine outP1 Tryd.results22 (congrArg B ?_) hH5.below
      first | exact (fac_no (f := f.fc) (nt ‹_›)).symm | exact (fac_12s (f := f.fc) (nf ‹(!namedF f.names) = false›) (.inl ‹_›)).symm | exact (fac_12s (f := f.fc) (nf ‹(!namedF f.names) = false›) (.inr ‹_›)).symm | exact (fac_3y (f := f.fc) (nf ‹(!namedF f.names) = false›) ‹_› ‹_›).symm | exact (fac_3n (f := f.fc) ‹_› ‹_›).symm | exact (fac_4y (f := f.fc) (nf ‹(!namedF f.names) = false›) ‹_› ‹_›).symm | exact (fac_4n (f := f.fc) ‹_› ‹_›).symm | exact (fac_x (f := f.fc) ‹_› ‹_› ‹_› ‹_›).symm
    ·refine SR ?_
     refine V (run_eql rfl rfl) ?_
     refine V (aV (B _) rfl) ?_
     refine RL.nil ?_
     refine CW.condP rfl (fun h29 => ?_) (fun h29 => ?_)
     ·refine SR ?_
      refine V (fA underlying48 2 rfl sizeOf46 rfl) ?_
      refine V (fA underlying46 0 rfl sizeOf3 rfl) ?_
      refine V (run_ld underlying3 rfl rfl (hH5.cell (i := 0) rfl (v := I _) rfl)) ?_
      refine V (fA underlying48 1 rfl sizeOf43 rfl) ?_
      refine V (run_ld underlying43 rfl rfl (hH5.cell (i := 0) rfl rfl)) ?_
      refine V (run_lenSl (hf.names.sl.hp hH5) rfl underlying43 rfl) ?_
      refine V (run_eql rfl rfl) ?_
      refine V (mV (B _) rfl) ?_
      refine RL.splitP (dj := 39) rfl (fun h31 => ?_) (fun h31 => ?_)
      ·refine RL.gT rfl (bT h31) ?_
       refine V (fA underlying48 2 rfl sizeOf46 rfl) ?_
       refine RL.gT rfl (bT h31) ?_
       refine V (run_ldBR underlying46 rfl rfl rfl (hH5.blk (i := 0) rfl)) ?_
       refine RL.gT rfl (bT h31) ?_
       refine RL.callP rfl hH5 (c_hasse_Lattice _  _ (hT.hp hH5)) (run_call1 call48 rfl) ?_
       intro w32 hH33
       refine V (run_pickT (bT h31) (v := B _) rfl) ?_
       refine V (aV (B _) rfl) ?_
       refine RL.nil ?_
       refine CW.ret ?_
       refine outP1 Tryd.results22 (congrArg B ?_) hH33.below
       first | exact (fac_no (f := f.fc) (nt ‹_›)).symm | exact (fac_12s (f := f.fc) (nf ‹(!namedF f.names) = false›) (.inl ‹_›)).symm | exact (fac_12s (f := f.fc) (nf ‹(!namedF f.names) = false›) (.inr ‹_›)).symm | exact (fac_3y (f := f.fc) (nf ‹(!namedF f.names) = false›) ‹_› ‹_›).symm | exact (fac_3n (f := f.fc) ‹_› ‹_›).symm | exact (fac_4y (f := f.fc) (nf ‹(!namedF f.names) = false›) ‹_› ‹_›).symm | exact (fac_4n (f := f.fc) ‹_› ‹_›).symm | exact (fac_x (f := f.fc) ‹_› ‹_› ‹_› ‹_›).symm
      ·refine RL.gF rfl rfl (bF h31) rfl ?_
       refine RL.gF rfl rfl (bF h31) rfl ?_
       refine RL.gF rfl rfl (bF h31) rfl ?_
       refine V (run_pickF (bF h31) (v := B false) rfl) ?_
       refine V (aV (B _) rfl) ?_
       refine RL.nil ?_
       refine CW.ret ?_
       refine outP1 Tryd.results22 (congrArg B ?_) hH5.below
       first | exact (fac_no (f := f.fc) (nt ‹_›)).symm | exact (fac_12s (f := f.fc) (nf ‹(!namedF f.names) = false›) (.inl ‹_›)).symm | exact (fac_12s (f := f.fc) (nf ‹(!namedF f.names) = false›) (.inr ‹_›)).symm | exact (fac_3y (f := f.fc) (nf ‹(!namedF f.names) = false›) ‹_› ‹_›).symm | exact (fac_3n (f := f.fc) ‹_› ‹_›).symm | exact (fac_4y (f := f.fc) (nf ‹(!namedF f.names) = false›) ‹_› ‹_›).symm | exact (fac_4n (f := f.fc) ‹_› ‹_›).symm | exact (fac_x (f := f.fc) ‹_› ‹_› ‹_› ‹_›).symm
     ·refine CW.skip ?_
      refine SR ?_
      refine V (aV (B false) rfl) ?_
      refine RL.nil ?_
      refine CW.ret ?_
      refine outP1 Tryd.results22 (congrArg B ?_) hH5.below
      first | exact (fac_no (f := f.fc) (nt ‹_›)).symm | exact (fac_12s (f := f.fc) (nf ‹(!namedF f.names) = false›) (.inl ‹_›)).symm | exact (fac_12s (f := f.fc) (nf ‹(!namedF f.names) = false›) (.inr ‹_›)).symm | exact (fac_3y (f := f.fc) (nf ‹(!namedF f.names) = false›) ‹_› ‹_›).symm | exact (fac_3n (f := f.fc) ‹_› ‹_›).symm | exact (fac_4y (f := f.fc) (nf ‹(!namedF f.names) = false›) ‹_› ‹_›).symm | exact (fac_4n (f := f.fc) ‹_› ‹_›).symm | exact (fac_x (f := f.fc) ‹_› ‹_› ‹_› ‹_›).symm

theorem c_shape_Right (s : Shp) (w : World) (hs : ShpV (Kw w) s) (hT : Tab w) : Calls Tryd.prog 11 #[.agg (shpC s)] w (Pure (B (shR s.sh)) w) := by
 have hsl := sh_len s
 have hm := hs.facs.sl.small
 unfold maxLen at hm
 refine enter Tryd.func11 rfl Tryd.ntmps11 rfl ?_
 have hH := Hp.start w
 refine SR ?_
 refine RL.new rfl hH (f := fun b => (.pointer (some ⟨b, 0, none⟩))) (run_box (v := .agg _) rfl) ?_
 intro b3 w1 hH2
 refine V (aV (B false) rfl) ?_
 refine RL.nil ?_
 refine SR ?_
 refine V (fA underlying24 1 rfl sizeOf22 rfl) ?_
 refine V (run_ld underlying22 rfl rfl (hH2.cell (i := 0) rfl rfl)) ?_
 refine V (run_lenSl (hs.facs.sl.hp hH2) rfl underlying22 rfl) ?_
 refine V (aV (I _) rfl) ?_
 refine RL.nil ?_
 refine CW.seq ?_
 refine SR ?_
 refine V (mV (I _) rfl) ?_
 refine V (run_lss rfl rfl) ?_
 refine V (mV (B _) rfl) ?_
 refine RL.splitP (dj := 11) rfl (fun h5 => ?_) (fun h5 => ?_)
 ·refine RL.gF rfl rfl (bT h5) rfl ?_
  refine RL.gF rfl rfl (bT h5) rfl ?_
  refine V (run_pickT (bT h5) (v := B true) rfl) ?_
  refine V (mV (B _) rfl) ?_
  refine RL.gF rfl rfl rfl rfl ?_
  refine RL.gF rfl rfl rfl rfl ?_
  refine RL.gF rfl rfl rfl rfl ?_
  refine RL.gF rfl rfl rfl rfl ?_
  refine RL.gU rfl rfl rfl ?_
  refine RL.gU rfl rfl rfl ?_
  refine RL.gF rfl rfl rfl rfl ?_
  refine V (run_pickT rfl (v := B true) rfl) ?_
  refine RL.nil ?_
  refine CW.condT rfl ?_
  refine SR ?_
  refine V (aV (B false) rfl) ?_
  refine RL.nil ?_
  refine CW.ret ?_
  refine outP1 Tryd.results11 (congrArg B ?_) hH2.below
  first | exact (shR_no3 (k := k) h0 (by omega) (by rw [sh_get]; exact nt ‹_›)).symm | exact (shR_yes (k := k) (by omega) hc2 (by omega) fun j a b => by rw [sh_get]; exact hg j a b).symm | exact (shR_no1 (by omega)).symm | exact (shR_no2 (by first | exact nt ‹_› | assumption) (by omega)).symm
 ·refine RL.gT rfl (bF h5) ?_
  refine V (mV (I _) rfl) ?_
  refine RL.gT rfl (bF h5) ?_
  refine V (run_gtr rfl rfl) ?_
  refine V (run_pickF (bF h5) (v := B _) rfl) ?_
  refine V (mV (B _) rfl) ?_
  refine RL.splitP (dj := 15) rfl (fun h7 => ?_) (fun h7 => ?_)
  ·refine RL.gF rfl rfl (bT h7) rfl ?_
   refine RL.gF rfl rfl (bT h7) rfl ?_
   refine RL.gF rfl rfl (bT h7) rfl ?_
   refine RL.gF rfl rfl (bT h7) rfl ?_
   refine RL.gU rfl rfl rfl ?_
   refine RL.gU rfl rfl rfl ?_
   refine RL.gF rfl rfl (bT h7) rfl ?_
   refine V (run_pickT (bT h7) (v := B true) rfl) ?_
   refine RL.nil ?_
   refine CW.condT rfl ?_
   refine SR ?_
   refine V (aV (B false) rfl) ?_
   refine RL.nil ?_
   refine CW.ret ?_
   refine outP1 Tryd.results11 (congrArg B ?_) hH2.below
   first | exact (shR_no3 (k := k) h0 (by omega) (by rw [sh_get]; exact nt ‹_›)).symm | exact (shR_yes (k := k) (by omega) hc2 (by omega) fun j a b => by rw [sh_get]; exact hg j a b).symm | exact (shR_no1 (by omega)).symm | exact (shR_no2 (by first | exact nt ‹_› | assumption) (by omega)).symm
  ·refine RL.gT rfl (bF h7) ?_
   refine V (fA underlying24 0 rfl sizeOf4 rfl) ?_
   refine RL.gT rfl (bF h7) ?_
   refine V (run_ld underlying4 rfl rfl (hH2.cell (i := 0) rfl (v := B _) rfl)) ?_
   refine RL.gT rfl (bF h7) ?_
   refine V (run_not rfl) ?_
   refine RL.gT rfl (bF h7) ?_
   refine V (mV (B _) rfl) ?_
   refine RL.split (dj := 19) rfl (fun h10 => ?_) (fun h10 => ?_)
   ·refine RL.gT rfl (bR (c := true) h10) ?_
    refine V (mV (I _) rfl) ?_
    refine RL.gT rfl (bR (c := true) h10) ?_
    refine V (run_neq rfl rfl) ?_
    refine RL.gT rfl (bF h7) ?_
    refine V (run_pickT (bR (c := true) h10) (v := B _) rfl) ?_
    refine V (run_pickF (bF h7) (v := B _) rfl) ?_
    refine RL.nil ?_
    refine CW.condP rfl (fun h12 => ?_) (fun h12 => ?_)
    ·refine SR ?_
     refine V (aV (B false) rfl) ?_
     refine RL.nil ?_
     refine CW.ret ?_
     refine outP1 Tryd.results11 (congrArg B ?_) hH2.below
     first | exact (shR_no3 (k := k) h0 (by omega) (by rw [sh_get]; exact nt ‹_›)).symm | exact (shR_yes (k := k) (by omega) hc2 (by omega) fun j a b => by rw [sh_get]; exact hg j a b).symm | exact (shR_no1 (by omega)).symm | exact (shR_no2 (by first | exact nt ‹_› | assumption) (by omega)).symm
    ·refine CW.skip ?_
     refine CW.seq ?_
     refine SR ?_
     refine V (fA underlying24 1 rfl sizeOf22 rfl) ?_
     refine V (run_ld underlying22 rfl rfl (hH2.cell (i := 0) rfl rfl)) ?_
     refine V (run_lenSl (hs.facs.sl.hp hH2) rfl underlying22 rfl) ?_
     refine V (mV (I 0) rfl) ?_
     refine RL.nil ?_
     refine CW.block ?_
     have hc2 : s.sh.tuple = true ∨ s.sh.facs.length = 1 := by first | exact .inl (nf ‹(!s.tuple) = false›) | exact .inl ‹s.tuple = true› | exact .inr (by omega)
     have hc1 : 1 ≤ s.facs.length ∧ s.facs.length ≤ 8 := by omega
     refine CW.loop (G := (Int)) (fun (k : Int) s' w' => (Fr [2, 5, 27, 28, 29, 30, 31, 32, 33, 34] _ s') ∧ (Hp w w' _) ∧ (s' 27 = I k) ∧ (0 ≤ k) ∧ (k ≤ s.facs.length) ∧ (∀ j : Int, 0 ≤ j → j < k → factorR (s.facs.getD j.toNat fac0).fc = true)) (fun (k : Int) => (s.facs.length - k).toNat) (0) ⟨Fr.refl _ _, hH2, rfl, (by omega), (by omega), fun j a b => absurd b (by omega)⟩ ?_
     rintro k sg13 w13 ⟨fr13, hH13, e27_13, h0, hk, hg⟩
     have e25_13 := (fr13 25 rfl).trans (by conv => lhs; whnf)
     have e26_13 : sg13 26 = I _ := (fr13 26 rfl).trans rfl
     refine SR ?_
     refine V (run_lss e27_13 e26_13) ?_
     refine RL.nil ?_
     refine CW.seq ?_
     refine CW.condP rfl (fun h15 => ?_) (fun h15 => ?_)
     ·refine CW.skip ?_
      refine CW.seq ?_
      refine CW.block ?_
      refine SR ?_
      refine V (run_indexAddrS (hs.facs.sl.hp hH13) underlying22 sizeOf48 e25_13 e27_13 (by omega)) ?_
      refine V (run_ldE (dv := fac0) facL_len (hs.facs.sl.hp hH13) underlying48 rfl rfl rfl (by omega)) ?_
      refine RL.new rfl hH13 (f := fun b => (.pointer (some ⟨b, 0, none⟩))) (run_alloc zero_fac) ?_
      intro b18 w16 hH17
      refine RL.set hH17 (i := 0) rfl (run_stFac (hs.at (by omega) (by omega)) rfl rfl rfl (hH17.blk (i := 0) rfl)) ?_
      intro w19 hH20
      simp only [z0, z1] at hH20
      refine RL.nil ?_
      refine SR ?_
      refine V (run_ldFac underlying48 rfl rfl rfl (hH20.blk (i := 0) rfl)) ?_
      refine RL.callP rfl hH20 (c_shape_factor _  _ ((hs.at (by omega) (by omega)).mono hH20.kw) (hT.hp hH20)) (run_call1 call22 rfl) ?_
      intro w21 hH22
      refine V (run_not rfl) ?_
      refine RL.nil ?_
      refine CW.cond rfl (fun h25 => ?_) (fun h25 => ?_)
      ·refine SR ?_
       refine V (aV (B false) rfl) ?_
       refine RL.nil ?_
       refine CW.ret ?_
       refine outP1 Tryd.results11 (congrArg B ?_) hH22.below
       first | exact (shR_no3 (k := k) h0 (by omega) (by rw [sh_get]; exact nt ‹_›)).symm | exact (shR_yes (k := k) (by omega) hc2 (by omega) fun j a b => by rw [sh_get]; exact hg j a b).symm | exact (shR_no1 (by omega)).symm | exact (shR_no2 (by first | exact nt ‹_› | assumption) (by omega)).symm
      ·refine CW.skip ?_
       refine CW.region ?_
       refine V (run_add e27_13 rfl (by omega)) ?_
       refine V (mV (I _) rfl) ?_
       refine RL.nil ?_
       refine ⟨k + 1, ?_, fr13.u4.u4.u1, (hH22.sub (sQ sR)), (congrArg I (by first | rfl | omega)), ?_, ?_, ?_⟩
       ·((try dsimp only); omega)
       ·omega
       ·omega
       ·exact fun j a b => if e : j = k then e ▸ nf ‹_› else hg j a (by omega)
     ·refine CW.exit (id := 0) rfl ?_
      refine SR ?_
      refine V (aV (B true) rfl) ?_
      refine RL.nil ?_
      refine CW.ret ?_
      refine outP1 Tryd.results11 (congrArg B ?_) hH13.below
      first | exact (shR_no3 (k := k) h0 (by omega) (by rw [sh_get]; exact nt ‹_›)).symm | exact (shR_yes (k := k) (by omega) hc2 (by omega) fun j a b => by rw [sh_get]; exact hg j a b).symm | exact (shR_no1 (by omega)).symm | exact (shR_no2 (by first | exact nt ‹_› | assumption) (by omega)).symm
   ·refine RL.gF rfl rfl (bR (c := false) h10) rfl ?_
    refine RL.gF rfl rfl (bR (c := false) h10) rfl ?_
    refine RL.gT rfl (bF h7) ?_
    refine V (run_pickF (bR (c := false) h10) (v := B false) rfl) ?_
    refine V (run_pickF (bF h7) (v := B _) rfl) ?_
    refine RL.nil ?_
    refine CW.condF rfl ?_
    refine CW.skip ?_
    refine CW.seq ?_
    refine SR ?_
    refine V (fA underlying24 1 rfl sizeOf22 rfl) ?_
    refine V (run_ld underlying22 rfl rfl (hH2.cell (i := 0) rfl rfl)) ?_
    refine V (run_lenSl (hs.facs.sl.hp hH2) rfl underlying22 rfl) ?_
    refine V (mV (I 0) rfl) ?_
    refine RL.nil ?_
    refine CW.block ?_
    have hc2 : s.sh.tuple = true ∨ s.sh.facs.length = 1 := by first | exact .inl (nf ‹(!s.tuple) = false›) | exact .inl ‹s.tuple = true› | exact .inr (by omega)
    have hc1 : 1 ≤ s.facs.length ∧ s.facs.length ≤ 8 := by omega
    refine CW.loop (G := (Int)) (fun (k : Int) s' w' => (Fr [2, 5, 27, 28, 29, 30, 31, 32, 33, 34] _ s') ∧ (Hp w w' _) ∧ (s' 27 = I k) ∧ (0 ≤ k) ∧ (k ≤ s.facs.length) ∧ (∀ j : Int, 0 ≤ j → j < k → factorR (s.facs.getD j.toNat fac0).fc = true)) (fun (k : Int) => (s.facs.length - k).toNat) (0) ⟨Fr.refl _ _, hH2, rfl, (by omega), (by omega), fun j a b => absurd b (by omega)⟩ ?_
    rintro k sg26 w26 ⟨fr26, hH26, e27_26, h0, hk, hg⟩
    have e25_26 := (fr26 25 rfl).trans (by conv => lhs; whnf)
    have e26_26 : sg26 26 = I _ := (fr26 26 rfl).trans rfl
    refine SR ?_
    refine V (run_lss e27_26 e26_26) ?_
    refine RL.nil ?_
    refine CW.seq ?_
    refine CW.condP rfl (fun h28 => ?_) (fun h28 => ?_)
    ·refine CW.skip ?_
     refine CW.seq ?_
     refine CW.block ?_
     refine SR ?_
     refine V (run_indexAddrS (hs.facs.sl.hp hH26) underlying22 sizeOf48 e25_26 e27_26 (by omega)) ?_
     refine V (run_ldE (dv := fac0) facL_len (hs.facs.sl.hp hH26) underlying48 rfl rfl rfl (by omega)) ?_
     refine RL.new rfl hH26 (f := fun b => (.pointer (some ⟨b, 0, none⟩))) (run_alloc zero_fac) ?_
     intro b31 w29 hH30
     refine RL.set hH30 (i := 0) rfl (run_stFac (hs.at (by omega) (by omega)) rfl rfl rfl (hH30.blk (i := 0) rfl)) ?_
     intro w32 hH33
     simp only [z0, z1] at hH33
     refine RL.nil ?_
     refine SR ?_
     refine V (run_ldFac underlying48 rfl rfl rfl (hH33.blk (i := 0) rfl)) ?_
     refine RL.callP rfl hH33 (c_shape_factor _  _ ((hs.at (by omega) (by omega)).mono hH33.kw) (hT.hp hH33)) (run_call1 call22 rfl) ?_
     intro w34 hH35
     refine V (run_not rfl) ?_
     refine RL.nil ?_
     refine CW.cond rfl (fun h38 => ?_) (fun h38 => ?_)
     ·refine SR ?_
      refine V (aV (B false) rfl) ?_
      refine RL.nil ?_
      refine CW.ret ?_
      refine outP1 Tryd.results11 (congrArg B ?_) hH35.below
      first | exact (shR_no3 (k := k) h0 (by omega) (by rw [sh_get]; exact nt ‹_›)).symm | exact (shR_yes (k := k) (by omega) hc2 (by omega) fun j a b => by rw [sh_get]; exact hg j a b).symm | exact (shR_no1 (by omega)).symm | exact (shR_no2 (by first | exact nt ‹_› | assumption) (by omega)).symm
     ·refine CW.skip ?_
      refine CW.region ?_
      refine V (run_add e27_26 rfl (by omega)) ?_
      refine V (mV (I _) rfl) ?_
      refine RL.nil ?_
      refine ⟨k + 1, ?_, fr26.u4.u4.u1, (hH35.sub (sQ sR)), (congrArg I (by first | rfl | omega)), ?_, ?_, ?_⟩
      ·((try dsimp only); omega)
      ·omega
      ·omega
      ·exact fun j a b => if e : j = k then e ▸ nf ‹_› else hg j a (by omega)
    ·refine CW.exit (id := 0) rfl ?_
     refine SR ?_
     refine V (aV (B true) rfl) ?_
     refine RL.nil ?_
     refine CW.ret ?_
     refine outP1 Tryd.results11 (congrArg B ?_) hH26.below
     first | exact (shR_no3 (k := k) h0 (by omega) (by rw [sh_get]; exact nt ‹_›)).symm | exact (shR_yes (k := k) (by omega) hc2 (by omega) fun j a b => by rw [sh_get]; exact hg j a b).symm | exact (shR_no1 (by omega)).symm | exact (shR_no2 (by first | exact nt ‹_› | assumption) (by omega)).symm

theorem c_shape_word (f : Fac) (s : BitVec 64) (w : World) (hf : FacV (Kw w) f) (hT : Tab w) : Calls Tryd.prog 12 #[.agg (facC f), U s] w (Pure (B (wordF f.fc s)) w) := by
 have hm := hf.names.sl.small
 unfold maxLen at hm
 refine enter Tryd.func12 rfl Tryd.ntmps12 rfl ?_
 have hH := Hp.start w
 refine SR ?_
 refine RL.new rfl hH (f := fun b => (.pointer (some ⟨b, 0, none⟩))) (run_box (v := .agg _) rfl) ?_
 intro b3 w1 hH2
 refine V (aV (B false) rfl) ?_
 refine RL.nil ?_
 refine CW.seq ?_
 refine SR ?_
 refine V (fA underlying48 0 rfl sizeOf3 rfl) ?_
 refine V (run_ld underlying3 rfl rfl (hH2.cell (i := 0) rfl (v := I _) rfl)) ?_
 refine RL.nil ?_
 refine CW.block ?_
 refine SR ?_
 refine V (run_eql rfl rfl) ?_
 refine V (aV (B _) rfl) ?_
 refine RL.nil ?_
 refine CW.condP rfl (fun h5 => ?_) (fun h5 => ?_)
 ·refine SR ?_
  refine V (fA underlying48 1 rfl sizeOf43 rfl) ?_
  refine V (run_ld underlying43 rfl rfl (hH2.cell (i := 0) rfl rfl)) ?_
  refine V (run_lenSl (hf.names.sl.hp hH2) rfl underlying43 rfl) ?_
  refine V (mV (U _) rfl) ?_
  refine RL.callP rfl hH2 (c_rung_Right _ _  _) (run_call2 call23 rfl rfl) ?_
  intro w6 hH7
  refine V (aV (B _) rfl) ?_
  refine RL.nil ?_
  refine CW.ret ?_
  refine outP1 Tryd.results12 (congrArg B ?_) hH7.below
  first | exact (word1 (f := f.fc) ‹_› s).symm | exact (word2 (f := f.fc) ‹_› s).symm | exact (word3 (f := f.fc) ‹_› s).symm | exact (wordx (f := f.fc) ‹_› ‹_› ‹_› s).symm
 ·refine SR ?_
  refine V (run_eql rfl rfl) ?_
  refine V (aV (B _) rfl) ?_
  refine RL.nil ?_
  refine CW.condP rfl (fun h10 => ?_) (fun h10 => ?_)
  ·refine SR ?_
   refine V (mV (U _) rfl) ?_
   refine V (fA underlying48 1 rfl sizeOf43 rfl) ?_
   refine V (run_ld underlying43 rfl rfl (hH2.cell (i := 0) rfl rfl)) ?_
   refine V (run_lenSl (hf.names.sl.hp hH2) rfl underlying43 rfl) ?_
   refine RL.callP rfl hH2 (c_mask_Below _  _) (run_call1 call25 rfl) ?_
   intro w11 hH12
   refine RL.callP rfl hH12 (c_mask_Sub _ _  _) (run_call2 call24 rfl rfl) ?_
   intro w13 hH14
   refine V (aV (B _) rfl) ?_
   refine RL.nil ?_
   refine CW.ret ?_
   refine outP1 Tryd.results12 (congrArg B ?_) hH14.below
   first | exact (word1 (f := f.fc) ‹_› s).symm | exact (word2 (f := f.fc) ‹_› s).symm | exact (word3 (f := f.fc) ‹_› s).symm | exact (wordx (f := f.fc) ‹_› ‹_› ‹_› s).symm
  ·refine SR ?_
   refine V (run_eql rfl rfl) ?_
   refine V (aV (B _) rfl) ?_
   refine RL.nil ?_
   refine CW.condP rfl (fun h17 => ?_) (fun h17 => ?_)
   ·refine SR ?_
    refine V (fA underlying48 2 rfl sizeOf46 rfl) ?_
    refine V (run_ldBR underlying46 rfl rfl rfl (hH2.blk (i := 0) rfl)) ?_
    refine V (mV (U _) rfl) ?_
    refine RL.callP rfl hH2 (c_grid_Closed _ _  _ (hT.hp hH2)) (run_call2 call26 rfl rfl) ?_
    intro w18 hH19
    refine V (aV (B _) rfl) ?_
    refine RL.nil ?_
    refine CW.ret ?_
    refine outP1 Tryd.results12 (congrArg B ?_) hH19.below
    first | exact (word1 (f := f.fc) ‹_› s).symm | exact (word2 (f := f.fc) ‹_› s).symm | exact (word3 (f := f.fc) ‹_› s).symm | exact (wordx (f := f.fc) ‹_› ‹_› ‹_› s).symm
   ·refine CW.skip ?_
    refine SR ?_
    refine V (fA underlying48 2 rfl sizeOf46 rfl) ?_
    refine V (run_ldBR underlying46 rfl rfl rfl (hH2.blk (i := 0) rfl)) ?_
    refine V (mV (U _) rfl) ?_
    refine RL.callP rfl hH2 (c_hasse_Point _ _  _ (hT.hp hH2)) (run_call2 call27 rfl rfl) ?_
    intro w21 hH22
    refine V (run_move (by conv => lhs; whnf)) ?_
    refine V (run_extract rfl (v := I _) rfl) ?_
    refine V (run_extract rfl (v := B _) rfl) ?_
    refine V (aV (I _) rfl) ?_
    refine V (aV (B _) rfl) ?_
    refine RL.nil ?_
    refine SR ?_
    refine V (mV (B _) rfl) ?_
    refine V (aV (B _) rfl) ?_
    refine RL.nil ?_
    refine CW.ret ?_
    refine outP1 Tryd.results12 (congrArg B ?_) hH22.below
    first | exact (word1 (f := f.fc) ‹_› s).symm | exact (word2 (f := f.fc) ‹_› s).symm | exact (word3 (f := f.fc) ‹_› s).symm | exact (wordx (f := f.fc) ‹_› ‹_› ‹_› s).symm

theorem c_shape_Fits (s : Shp) (e : El) (w : World) (hs : ShpV (Kw w) s) (hT : Tab w) : Calls Tryd.prog 5 #[.agg (shpC s), .agg (elC e)] w (Pure (B (fitsS s.sh e)) w) := by
 have hsl := sh_len s
 have hm := hs.facs.sl.small
 unfold maxLen at hm
 refine enter Tryd.func5 rfl Tryd.ntmps5 rfl ?_
 have hH := Hp.start w
 refine SR ?_
 refine RL.new rfl hH (f := fun b => (.pointer (some ⟨b, 0, none⟩))) (run_box (v := .agg _) rfl) ?_
 intro b3 w1 hH2
 refine RL.new rfl hH2 (f := fun b => (.pointer (some ⟨b, 0, none⟩))) (run_box (v := .agg _) rfl) ?_
 intro b6 w4 hH5
 refine V (aV (B false) rfl) ?_
 refine RL.nil ?_
 refine CW.seq ?_
 refine SR ?_
 refine V (run_ldA (cs := [B _, _]) underlying24 rfl rfl rfl (rangeAt_cells (hH5.blk (i := 1) rfl))) ?_
 refine RL.callP rfl hH5 (c_shape_Right _  _ (hs.mono hH5.kw) (hT.hp hH5)) (run_call1 call11 rfl) ?_
 intro w7 hH8
 refine V (run_not rfl) ?_
 refine RL.nil ?_
 refine CW.cond rfl (fun h11 => ?_) (fun h11 => ?_)
 ·refine SR ?_
  refine V (aV (B false) rfl) ?_
  refine RL.nil ?_
  refine CW.ret ?_
  refine outP1 Tryd.results5 (congrArg B ?_) hH8.below
  first | exact (fits_no1 (nt ‹_›)).symm | exact (fits_no3 h0 ‹_› (by omega) ‹_›).symm | exact (fits_no2 h0 ‹_› (by omega) (by rw [sh_get]; exact nt ‹_›)).symm | exact (fits_yes hr ‹_› hf).symm
 ·refine CW.skip ?_
  refine CW.seq ?_
  refine SR ?_
  refine V (run_ldEl underlying27 rfl rfl rfl (hH8.blk (i := 0) rfl)) ?_
  refine V (mV (I 0) rfl) ?_
  refine RL.nil ?_
  refine CW.block ?_
  have hr : shR s.sh = true := nf ‹_›
  refine CW.loop (G := (Int)) (fun (k : Int) s' w' => (Fr [4, 5, 6, 11, 12, 13, 14, 15, 16, 17, 18, 19, 20, 21, 22, 23, 24, 25, 26, 27, 28, 29, 30] _ s') ∧ (Hp w w' _) ∧ (s' 11 = I k) ∧ (0 ≤ k) ∧ (k ≤ 8) ∧ (FitTo s.sh e k)) (fun (k : Int) => (8 - k).toNat) (0) ⟨Fr.refl _ _, hH8, rfl, (by omega), (by omega), FitTo.none _ _⟩ ?_
  rintro k sg12 w12 ⟨fr12, hH12, e11_12, h0, hk, hf⟩
  have e2_12 : sg12 2 = Pn _ _ := (fr12 2 rfl).trans rfl
  have e10_12 : sg12 10 = .agg _ := (fr12 10 rfl).trans rfl
  refine SR ?_
  refine V (run_lss e11_12 rfl) ?_
  refine RL.nil ?_
  refine CW.seq ?_
  refine CW.condP rfl (fun h14 => ?_) (fun h14 => ?_)
  ·refine CW.skip ?_
   refine CW.seq ?_
   refine CW.block ?_
   refine SR ?_
   refine V (run_move e11_12) ?_
   refine V (run_indexA underlying27 isAgg25 sizeOf25 e10_12 e11_12 (by omega) (elC_ix _ (by omega))) ?_
   refine V (aV (I _) rfl) ?_
   refine V (aV (U _) rfl) ?_
   refine RL.nil ?_
   refine CW.seq ?_
   refine SR ?_
   refine V (mV (I _) rfl) ?_
   refine V (fA underlying24 1 rfl sizeOf22 e2_12) ?_
   refine V (run_ld underlying22 rfl rfl (hH12.cell (i := 1) rfl rfl)) ?_
   refine V (run_lenSl (hs.facs.sl.hp hH12) rfl underlying22 rfl) ?_
   refine V (run_geq rfl rfl) ?_
   refine RL.nil ?_
   refine CW.condP rfl (fun h16 => ?_) (fun h16 => ?_)
   ·refine CW.seq ?_
    refine SR ?_
    refine V (mV (U _) rfl) ?_
    refine V (run_neqU rfl (b := 0#64) rfl) ?_
    refine RL.nil ?_
    refine CW.condP rfl (fun h18 => ?_) (fun h18 => ?_)
    ·refine SR ?_
     refine V (aV (B false) rfl) ?_
     refine RL.nil ?_
     refine CW.ret ?_
     refine outP1 Tryd.results5 (congrArg B ?_) hH12.below
     first | exact (fits_no1 (nt ‹_›)).symm | exact (fits_no3 h0 ‹_› (by omega) ‹_›).symm | exact (fits_no2 h0 ‹_› (by omega) (by rw [sh_get]; exact nt ‹_›)).symm | exact (fits_yes hr ‹_› hf).symm
    ·refine CW.skip ?_
     refine CW.exit (id := 1) rfl ?_
     refine CW.region ?_
     refine V (run_add e11_12 rfl (by omega)) ?_
     refine V (mV (I _) rfl) ?_
     refine RL.nil ?_
     refine ⟨k + 1, ?_, fr12.u4.u4.u4.u1.u1, hH12, (congrArg I (by first | rfl | omega)), ?_, ?_, ?_⟩
     ·((try dsimp only); omega)
     ·omega
     ·omega
     ·exact hf.next (fun h => by first | (exfalso; omega) | (rw [sh_get]; exact nf ‹_›)) (fun h => by first | exact Decidable.of_not_not ‹_› | (exfalso; omega))
   ·refine CW.skip ?_
    refine SR ?_
    refine V (fA underlying24 1 rfl sizeOf22 e2_12) ?_
    refine V (run_ld underlying22 rfl rfl (hH12.cell (i := 1) rfl rfl)) ?_
    refine V (mV (I _) rfl) ?_
    refine V (run_indexAddrS (hs.facs.sl.hp hH12) underlying22 sizeOf48 rfl rfl (by omega)) ?_
    refine V (run_ldE (dv := fac0) facL_len (hs.facs.sl.hp hH12) underlying48 rfl rfl rfl (by omega)) ?_
    refine V (mV (U _) rfl) ?_
    refine RL.callP rfl hH12 (c_shape_word _ _  _ ((hs.at (by omega) (by omega)).mono hH12.kw) (hT.hp hH12)) (run_call2 call12 rfl rfl) ?_
    intro w19 hH20
    refine V (run_not rfl) ?_
    refine RL.nil ?_
    refine CW.cond rfl (fun h23 => ?_) (fun h23 => ?_)
    ·refine SR ?_
     refine V (aV (B false) rfl) ?_
     refine RL.nil ?_
     refine CW.ret ?_
     refine outP1 Tryd.results5 (congrArg B ?_) hH20.below
     first | exact (fits_no1 (nt ‹_›)).symm | exact (fits_no3 h0 ‹_› (by omega) ‹_›).symm | exact (fits_no2 h0 ‹_› (by omega) (by rw [sh_get]; exact nt ‹_›)).symm | exact (fits_yes hr ‹_› hf).symm
    ·refine CW.skip ?_
     refine CW.region ?_
     refine V (run_add e11_12 rfl (by omega)) ?_
     refine V (mV (I _) rfl) ?_
     refine RL.nil ?_
     refine ⟨k + 1, ?_, fr12.u4.u4.u4.u4.u4, hH20, (congrArg I (by first | rfl | omega)), ?_, ?_, ?_⟩
     ·((try dsimp only); omega)
     ·omega
     ·omega
     ·exact hf.next (fun h => by first | (exfalso; omega) | (rw [sh_get]; exact nf ‹_›)) (fun h => by first | exact Decidable.of_not_not ‹_› | (exfalso; omega))
  ·refine CW.exit (id := 0) rfl ?_
   refine SR ?_
   refine V (aV (B true) rfl) ?_
   refine RL.nil ?_
   refine CW.ret ?_
   refine outP1 Tryd.results5 (congrArg B ?_) hH12.below
   first | exact (fits_no1 (nt ‹_›)).symm | exact (fits_no3 h0 ‹_› (by omega) ‹_›).symm | exact (fits_no2 h0 ‹_› (by omega) (by rw [sh_get]; exact nt ‹_›)).symm | exact (fits_yes hr ‹_› hf).symm

theorem c_clearancelaw07_Big (s : Shp) (w : World) (hs : ShpV (Kw w) s) : Calls Tryd.prog 4 #[.agg (shpC s)] w (Pure (B (bigS s.sh)) w) := by
 have hsl := sh_len s
 have hm := hs.facs.sl.small
 unfold maxLen at hm
 refine enter Tryd.func4 rfl Tryd.ntmps4 rfl ?_
 have hH := Hp.start w
 refine SR ?_
 refine RL.new rfl hH (f := fun b => (.pointer (some ⟨b, 0, none⟩))) (run_box (v := .agg _) rfl) ?_
 intro b3 w1 hH2
 refine V (aV (B false) rfl) ?_
 refine RL.nil ?_
 refine CW.seq ?_
 refine SR ?_
 refine V (fA underlying24 1 rfl sizeOf22 rfl) ?_
 refine V (run_ld underlying22 rfl rfl (hH2.cell (i := 0) rfl rfl)) ?_
 refine V (run_lenSl (hs.facs.sl.hp hH2) rfl underlying22 rfl) ?_
 refine V (run_gtr rfl rfl) ?_
 refine RL.nil ?_
 refine CW.condP rfl (fun h5 => ?_) (fun h5 => ?_)
 ·refine SR ?_
  refine V (aV (B true) rfl) ?_
  refine RL.nil ?_
  refine CW.ret ?_
  refine outP1 Tryd.results4 (congrArg B ?_) hH2.below
  first | exact (big_1 (s := s.sh) (by omega)).symm | exact (big_2 (s := s.sh) (k := k) h0 (by omega) (by rw [sh_get]; first | exact bigN_1 (by show 70 < (s.facs.getD k.toNat fac0).names.length; omega) | exact bigN_2 i0 ‹_› (by show 40 < ((s.facs.getD k.toNat fac0).names.getD i.toNat tx0).size; omega))).symm | exact (big_no (s := s.sh) (k := k) (by omega) (by omega) fun j a b => by rw [sh_get]; exact hg j a b).symm
 ·refine CW.skip ?_
  refine CW.seq ?_
  refine SR ?_
  refine V (aV (I 0) rfl) ?_
  refine RL.nil ?_
  refine CW.block ?_
  refine CW.loop (G := (Int)) (fun (k : Int) s' w' => (Fr [2, 3, 4, 5, 10, 11, 12, 13, 14, 15, 16, 17, 18, 19, 20, 21, 22, 23, 24, 25, 26, 27, 28, 29, 30, 31, 32, 33, 34, 35, 36, 37, 38, 39] _ s') ∧ (Hp w w' _) ∧ (s' 3 = I k) ∧ (0 ≤ k) ∧ (k ≤ s.facs.length) ∧ (∀ j : Int, 0 ≤ j → j < k → bigN (s.facs.getD j.toNat fac0).names = false)) (fun (k : Int) => (s.facs.length - k).toNat) (0) ⟨Fr.refl _ _, hH2, rfl, (by omega), (by omega), fun j a b => absurd b (by omega)⟩ ?_
  rintro k sg6 w6 ⟨fr6, hH6, e3_6, h0, hk, hg⟩
  have e1_6 : sg6 1 = Pn _ _ := (fr6 1 rfl).trans rfl
  refine CW.seq ?_
  refine SR ?_
  refine V (run_move e3_6) ?_
  refine V (fA underlying24 1 rfl sizeOf22 e1_6) ?_
  refine V (run_ld underlying22 rfl rfl (hH6.cell (i := 0) rfl rfl)) ?_
  refine V (run_lenSl (hs.facs.sl.hp hH6) rfl underlying22 rfl) ?_
  refine V (run_lss rfl rfl) ?_
  refine RL.nil ?_
  refine CW.condP rfl (fun h8 => ?_) (fun h8 => ?_)
  ·refine CW.skip ?_
   refine CW.seq ?_
   refine CW.block ?_
   refine SR ?_
   refine V (fA underlying24 1 rfl sizeOf22 e1_6) ?_
   refine V (run_ld underlying22 rfl rfl (hH6.cell (i := 0) rfl rfl)) ?_
   refine V (run_move e3_6) ?_
   refine V (run_indexAddrS (hs.facs.sl.hp hH6) underlying22 sizeOf48 rfl rfl (by omega)) ?_
   refine V (run_ldE (dv := fac0) facL_len (hs.facs.sl.hp hH6) underlying48 rfl rfl rfl (by omega)) ?_
   refine RL.new rfl hH6 (f := fun b => (.pointer (some ⟨b, 0, none⟩))) (run_alloc zero_fac) ?_
   intro b11 w9 hH10
   refine RL.set hH10 (i := 0) rfl (run_stFac (hs.at (by omega) (by omega)) rfl rfl rfl (hH10.blk (i := 0) rfl)) ?_
   intro w12 hH13
   simp only [z0, z1] at hH13
   refine RL.nil ?_
   refine CW.seq ?_
   refine SR ?_
   refine V (fA underlying48 1 rfl sizeOf43 rfl) ?_
   refine V (run_ld underlying43 rfl rfl (hH13.cell (i := 0) rfl rfl)) ?_
   refine V (run_lenSl ((hs.at (by omega) (by omega)).names.sl.hp hH13) rfl underlying43 rfl) ?_
   refine V (run_gtr rfl rfl) ?_
   refine RL.nil ?_
   refine CW.condP rfl (fun h15 => ?_) (fun h15 => ?_)
   ·refine SR ?_
    refine V (aV (B true) rfl) ?_
    refine RL.nil ?_
    refine CW.ret ?_
    refine outP1 Tryd.results4 (congrArg B ?_) hH13.below
    first | exact (big_1 (s := s.sh) (by omega)).symm | exact (big_2 (s := s.sh) (k := k) h0 (by omega) (by rw [sh_get]; first | exact bigN_1 (by show 70 < (s.facs.getD k.toNat fac0).names.length; omega) | exact bigN_2 i0 ‹_› (by show 40 < ((s.facs.getD k.toNat fac0).names.getD i.toNat tx0).size; omega))).symm | exact (big_no (s := s.sh) (k := k) (by omega) (by omega) fun j a b => by rw [sh_get]; exact hg j a b).symm
   ·refine CW.skip ?_
    refine SR ?_
    refine V (aV (I 0) rfl) ?_
    refine RL.nil ?_
    refine CW.block ?_
    have hnb : (s.facs.getD k.toNat fac0).names.length ≤ 70 := by omega
    refine CW.loop (G := (Int)) (fun (i : Int) s' w' => (Fr [2, 5, 26, 27, 28, 29, 30, 31, 32, 33, 34, 35, 36, 37, 38, 39] _ s') ∧ (Hp w w' _) ∧ (s' 5 = I i) ∧ (0 ≤ i) ∧ (i ≤ (s.facs.getD k.toNat fac0).names.length) ∧ (∀ j : Int, 0 ≤ j → j < i → ¬ 40 < ((s.facs.getD k.toNat fac0).names.getD j.toNat tx0).size)) (fun (i : Int) => ((s.facs.getD k.toNat fac0).names.length - i).toNat) (0) ⟨Fr.refl _ _, hH13, rfl, (by omega), (by omega), fun j a b => absurd b (by omega)⟩ ?_
    rintro i sg16 w16 ⟨fr16, hH16, e5_16, i0, i1, hn⟩
    have e1_16 := (fr16 1 rfl).trans e1_6
    have e3_16 := (fr16 3 rfl).trans e3_6
    have e4_16 : sg16 4 = Pn _ _ := (fr16 4 rfl).trans rfl
    have e10_16 : sg16 10 = I _ := (fr16 10 rfl).trans rfl
    have e11_16 : sg16 11 = Pn _ _ := (fr16 11 rfl).trans rfl
    have e12_16 := (fr16 12 rfl).trans (by conv => lhs; whnf)
    have e13_16 : sg16 13 = I _ := (fr16 13 rfl).trans rfl
    have e14_16 : sg16 14 = B _ := (fr16 14 rfl).trans rfl
    have e17_16 : sg16 17 = Pn _ _ := (fr16 17 rfl).trans rfl
    have e18_16 := (fr16 18 rfl).trans (by conv => lhs; whnf)
    have e19_16 : sg16 19 = I _ := (fr16 19 rfl).trans rfl
    have e20_16 : sg16 20 = Pn _ _ := (fr16 20 rfl).trans rfl
    have e21_16 : sg16 21 = .agg _ := (fr16 21 rfl).trans rfl
    have e22_16 : sg16 22 = Pn _ _ := (fr16 22 rfl).trans rfl
    have e23_16 := (fr16 23 rfl).trans (by conv => lhs; whnf)
    have e24_16 : sg16 24 = I _ := (fr16 24 rfl).trans rfl
    have e25_16 : sg16 25 = B _ := (fr16 25 rfl).trans rfl
    refine CW.seq ?_
    refine SR ?_
    refine V (run_move e5_16) ?_
    refine V (fA underlying48 1 rfl sizeOf43 e4_16) ?_
    refine V (run_ld underlying43 rfl rfl (hH16.cell (i := 0) rfl rfl)) ?_
    refine V (run_lenSl ((hs.at (by omega) (by omega)).names.sl.hp hH16) rfl underlying43 rfl) ?_
    refine V (run_lss rfl rfl) ?_
    refine RL.nil ?_
    refine CW.condP rfl (fun h18 => ?_) (fun h18 => ?_)
    ·refine CW.skip ?_
     refine CW.seq ?_
     refine CW.block ?_
     refine SR ?_
     refine V (fA underlying48 1 rfl sizeOf43 e4_16) ?_
     refine V (run_ld underlying43 rfl rfl (hH16.cell (i := 0) rfl rfl)) ?_
     refine V (run_move e5_16) ?_
     refine V (run_indexAddrS ((hs.at (by omega) (by omega)).names.sl.hp hH16) underlying43 sizeOf9 rfl rfl (by omega)) ?_
     refine V (run_ld underlying9 rfl rfl (((hs.at (by omega) (by omega)).names.sl.hp hH16).cell _ _ (txL_at (by omega)))) ?_
     refine V (run_lenStr rfl underlying9 rfl) ?_
     refine V (run_gtr rfl rfl) ?_
     refine RL.nil ?_
     refine CW.condP rfl (fun h20 => ?_) (fun h20 => ?_)
     ·refine SR ?_
      refine V (aV (B true) rfl) ?_
      refine RL.nil ?_
      refine CW.ret ?_
      refine outP1 Tryd.results4 (congrArg B ?_) hH16.below
      first | exact (big_1 (s := s.sh) (by omega)).symm | exact (big_2 (s := s.sh) (k := k) h0 (by omega) (by rw [sh_get]; first | exact bigN_1 (by show 70 < (s.facs.getD k.toNat fac0).names.length; omega) | exact bigN_2 i0 ‹_› (by show 40 < ((s.facs.getD k.toNat fac0).names.getD i.toNat tx0).size; omega))).symm | exact (big_no (s := s.sh) (k := k) (by omega) (by omega) fun j a b => by rw [sh_get]; exact hg j a b).symm
     ·refine CW.skip ?_
      refine CW.region ?_
      refine V (run_move e5_16) ?_
      refine V (run_add rfl rfl (by omega)) ?_
      refine V (aV (I _) rfl) ?_
      refine RL.nil ?_
      refine ⟨i + 1, ?_, fr16.u4.u4.u4.u1.u1.u1, hH16, (congrArg I (by first | rfl | omega)), ?_, ?_, ?_⟩
      ·((try dsimp only); omega)
      ·omega
      ·omega
      ·exact fun j a b => if e : j = i then e ▸ (by omega) else hn j a (by omega)
    ·refine CW.exit (id := 2) rfl ?_
     refine CW.region ?_
     refine V (run_move e3_16) ?_
     refine V (run_add rfl rfl (by omega)) ?_
     refine V (aV (I _) rfl) ?_
     refine RL.nil ?_
     refine ⟨k + 1, ?_, (((fr6.u4.u4.u4.u4).t fr16 rfl)).u4.u4, (hH16.sub (sQ sR)), (congrArg I (by first | rfl | omega)), ?_, ?_, ?_⟩
     ·((try dsimp only); omega)
     ·omega
     ·omega
     ·exact fun j a b => if e : j = k then e ▸ bigN_no (by omega) ‹¬ i < _› hn else hg j a (by omega)
  ·refine CW.exit (id := 0) rfl ?_
   refine SR ?_
   refine V (aV (B false) rfl) ?_
   refine RL.nil ?_
   refine CW.ret ?_
   refine outP1 Tryd.results4 (congrArg B ?_) hH6.below
   first | exact (big_1 (s := s.sh) (by omega)).symm | exact (big_2 (s := s.sh) (k := k) h0 (by omega) (by rw [sh_get]; first | exact bigN_1 (by show 70 < (s.facs.getD k.toNat fac0).names.length; omega) | exact bigN_2 i0 ‹_› (by show 40 < ((s.facs.getD k.toNat fac0).names.getD i.toNat tx0).size; omega))).symm | exact (big_no (s := s.sh) (k := k) (by omega) (by omega) fun j a b => by rw [sh_get]; exact hg j a b).symm

theorem c_term_right (v : Value) (l : List Wd) (w : World) (hs : Sl w v 2 l.length (l.flatMap wdL)) : Calls Tryd.prog 17 #[v] w (Pure (B (wordsR l)) w) := by
 have hm := hs.small
 unfold maxLen at hm
 refine enter Tryd.func17 rfl Tryd.ntmps17 rfl ?_
 have hH := Hp.start w
 refine SR ?_
 refine V (aV (B false) rfl) ?_
 refine RL.nil ?_
 refine CW.seq ?_
 refine SR ?_
 refine V (run_move (by conv => lhs; whnf)) ?_
 refine V (run_lenSl (hs.hp hH) rfl underlying31 rfl) ?_
 refine V (mV (I 0) rfl) ?_
 refine RL.nil ?_
 refine CW.block ?_
 refine CW.loop (G := (Int)) (fun (k : Int) s' w' => (Fr [2, 4, 7, 8, 9, 10, 11, 12, 13, 14, 15] _ s') ∧ (Hp w w' _) ∧ (s' 7 = I k) ∧ (0 ≤ k) ∧ (k ≤ l.length) ∧ (∀ j : Int, 0 ≤ j → j < k → nameR (l.getD j.toNat wd0).text = true)) (fun (k : Int) => (l.length - k).toNat) (0) ⟨Fr.refl _ _, hH, rfl, (by omega), (by omega), fun j a b => absurd b (by omega)⟩ ?_
 rintro k sg1 w1 ⟨fr1, hH1, e7_1, h0, hk, hg⟩
 have e5_1 := (fr1 5 rfl).trans (by conv => lhs; whnf)
 have e6_1 : sg1 6 = I _ := (fr1 6 rfl).trans rfl
 refine SR ?_
 refine V (run_lss e7_1 e6_1) ?_
 refine RL.nil ?_
 refine CW.seq ?_
 refine CW.condP rfl (fun h3 => ?_) (fun h3 => ?_)
 ·refine CW.skip ?_
  refine CW.seq ?_
  refine CW.block ?_
  refine SR ?_
  refine V (run_indexAddrS (hs.hp hH1) underlying31 sizeOf51 e5_1 e7_1 (by omega)) ?_
  refine V (run_ldE (dv := wd0) wdL_len (hs.hp hH1) underlying51 rfl rfl rfl (by omega)) ?_
  refine RL.new rfl hH1 (f := fun b => (.pointer (some ⟨b, 0, none⟩))) (run_alloc Tryd.zeroValue51) ?_
  intro b6 w4 hH5
  refine RL.set hH5 (i := 0) rfl (run_stW (c' := (wdL _).toArray) rfl rfl rfl (by simp [wdL, Value.oneCell']) (hH5.blk (i := 0) rfl) rfl) ?_
  intro w7 hH8
  simp only [z0, z1] at hH8
  refine RL.nil ?_
  refine SR ?_
  refine V (fA underlying51 0 rfl sizeOf9 rfl) ?_
  refine V (run_ld underlying9 rfl rfl (hH8.cell (i := 0) rfl (v := .string _) rfl)) ?_
  refine RL.callP rfl hH8 (c_name_Right _  _) (run_call1 call40 rfl) ?_
  intro w9 hH10
  refine V (run_not rfl) ?_
  refine RL.nil ?_
  refine CW.cond rfl (fun h13 => ?_) (fun h13 => ?_)
  ·refine SR ?_
   refine V (aV (B false) rfl) ?_
   refine RL.nil ?_
   refine CW.ret ?_
   refine outP1 Tryd.results17 (congrArg B ?_) hH10.below
   first | exact (all_no (d := wd0) (P := fun x : Wd => nameR x.text) h0 ‹k < _› (nt ‹(!nameR _) = true›)).symm | exact (all_yes (d := wd0) (P := fun x : Wd => nameR x.text) ‹¬ k < _› hg).symm
  ·refine CW.skip ?_
   refine CW.region ?_
   refine V (run_add e7_1 rfl (by omega)) ?_
   refine V (mV (I _) rfl) ?_
   refine RL.nil ?_
   refine ⟨k + 1, ?_, fr1.u4.u4.u1.u1, (hH10.sub (sQ sR)), (congrArg I (by first | rfl | omega)), ?_, ?_, ?_⟩
   ·((try dsimp only); omega)
   ·omega
   ·omega
   ·exact fun j a b => if e : j = k then e ▸ nf ‹(!nameR _) = false› else hg j a (by omega)
 ·refine CW.exit (id := 0) rfl ?_
  refine SR ?_
  refine V (aV (B true) rfl) ?_
  refine RL.nil ?_
  refine CW.ret ?_
  refine outP1 Tryd.results17 (congrArg B ?_) hH1.below
  first | exact (all_no (d := wd0) (P := fun x : Wd => nameR x.text) h0 ‹k < _› (nt ‹(!nameR _) = true›)).symm | exact (all_yes (d := wd0) (P := fun x : Wd => nameR x.text) ‹¬ k < _› hg).symm

theorem c_term_bare (n : NodeR) (w : World) (hn : NodeV (Kw w) n) : Calls Tryd.prog 18 #[.agg (nodeL n).toArray] w (Pure (B (decide (n.text = tx0 ∧ n.names.length = 0))) w) := by
 refine enter Tryd.func18 rfl Tryd.ntmps18 rfl ?_
 have hH := Hp.start w
 refine SR ?_
 refine RL.new rfl hH (f := fun b => (.pointer (some ⟨b, 0, none⟩))) (run_box (v := .agg _) rfl) ?_
 intro b3 w1 hH2
 refine V (aV (B false) rfl) ?_
 refine RL.nil ?_
 refine SR ?_
 refine V (fA underlying34 2 rfl sizeOf9 rfl) ?_
 refine V (run_ld underlying9 rfl rfl (hH2.cell (i := 0) rfl (v := .string _) rfl)) ?_
 refine V (run_eqlS rfl rfl) ?_
 refine V (mV (B _) rfl) ?_
 refine RL.splitP (dj := 6) rfl (fun h5 => ?_) (fun h5 => ?_)
 ·refine RL.gT rfl (bT h5) ?_
  refine V (fA underlying34 3 rfl sizeOf31 rfl) ?_
  refine RL.gT rfl (bT h5) ?_
  refine V (run_ldV (hn.names_.sl.hp hH2) underlying31 rfl rfl (hH2.cell (i := 0) rfl rfl)) ?_
  refine RL.gT rfl (bT h5) ?_
  refine V (run_lenSl (hn.names_.sl.hp hH2) rfl underlying31 rfl) ?_
  refine RL.gT rfl (bT h5) ?_
  refine V (run_eql rfl rfl) ?_
  refine V (run_pickT (bT h5) (v := B _) rfl) ?_
  refine V (aV (B _) rfl) ?_
  refine RL.nil ?_
  refine CW.ret ?_
  refine outP1 Tryd.results18 (congrArg B ?_) hH2.below
  (simp [*])
 ·refine RL.gF rfl rfl (bF h5) rfl ?_
  refine RL.gF rfl rfl (bF h5) rfl ?_
  refine RL.gF rfl rfl (bF h5) rfl ?_
  refine RL.gF rfl rfl (bF h5) rfl ?_
  refine V (run_pickF (bF h5) (v := B false) rfl) ?_
  refine V (aV (B _) rfl) ?_
  refine RL.nil ?_
  refine CW.ret ?_
  refine outP1 Tryd.results18 (congrArg B ?_) hH2.below
  (simp [*])

theorem c_term_leaf (n : NodeR) (w : World) (hn : NodeV (Kw w) n) : Calls Tryd.prog 16 #[.agg (nodeL n).toArray] w (Pure (B (nameR n.text && decide (n.names.length = 0 ∧ n.kids.length = 0))) w) := by
 have hm1 := hn.kids_.small
 have hm2 := hn.names_.small
 unfold maxLen at hm1 hm2
 refine enter Tryd.func16 rfl Tryd.ntmps16 rfl ?_
 have hH := Hp.start w
 refine SR ?_
 refine RL.new rfl hH (f := fun b => (.pointer (some ⟨b, 0, none⟩))) (run_box (v := .agg _) rfl) ?_
 intro b3 w1 hH2
 refine V (aV (B false) rfl) ?_
 refine RL.nil ?_
 refine SR ?_
 refine V (fA underlying34 2 rfl sizeOf9 rfl) ?_
 refine V (run_ld underlying9 rfl rfl (hH2.cell (i := 0) rfl (v := .string _) rfl)) ?_
 refine RL.callP rfl hH2 (c_name_Right _  _) (run_call1 call40 rfl) ?_
 intro w4 hH5
 refine V (mV (B _) rfl) ?_
 refine RL.split (dj := 6) rfl (fun h7 => ?_) (fun h7 => ?_)
 ·refine RL.gT rfl (bR (c := true) h7) ?_
  refine V (fA underlying34 3 rfl sizeOf31 rfl) ?_
  refine RL.gT rfl (bR (c := true) h7) ?_
  refine V (run_ldV (hn.names_.sl.hp hH5) underlying31 rfl rfl (hH5.cell (i := 0) rfl rfl)) ?_
  refine RL.gT rfl (bR (c := true) h7) ?_
  refine V (run_lenSl (hn.names_.sl.hp hH5) rfl underlying31 rfl) ?_
  refine RL.gT rfl (bR (c := true) h7) ?_
  refine V (fA underlying34 4 rfl sizeOf32 rfl) ?_
  refine RL.gT rfl (bR (c := true) h7) ?_
  refine V (run_ldV (hn.kids_.sl.hp hH5) underlying32 rfl rfl (hH5.cell (i := 0) rfl rfl)) ?_
  refine RL.gT rfl (bR (c := true) h7) ?_
  refine V (run_lenSl (hn.kids_.sl.hp hH5) rfl underlying32 rfl) ?_
  refine RL.gT rfl (bR (c := true) h7) ?_
  refine V (run_addW rfl rfl) ?_
  refine RL.gT rfl (bR (c := true) h7) ?_
  refine V (run_eql rfl rfl) ?_
  refine V (run_pickT (bR (c := true) h7) (v := B _) rfl) ?_
  refine V (aV (B _) rfl) ?_
  refine RL.nil ?_
  refine CW.ret ?_
  refine outP1 Tryd.results16 (congrArg B ?_) hH5.below
  first | (rw [wrap_len hm2 hm1]; simp [*]; done) | (simp [*]; done)
 ·refine RL.gF rfl rfl (bR (c := false) h7) rfl ?_
  refine RL.gF rfl rfl (bR (c := false) h7) rfl ?_
  refine RL.gF rfl rfl (bR (c := false) h7) rfl ?_
  refine RL.gF rfl rfl (bR (c := false) h7) rfl ?_
  refine RL.gF rfl rfl (bR (c := false) h7) rfl ?_
  refine RL.gF rfl rfl (bR (c := false) h7) rfl ?_
  refine RL.gF rfl rfl (bR (c := false) h7) rfl ?_
  refine RL.gF rfl rfl (bR (c := false) h7) rfl ?_
  refine V (run_pickF (bR (c := false) h7) (v := B false) rfl) ?_
  refine V (aV (B _) rfl) ?_
  refine RL.nil ?_
  refine CW.ret ?_
  refine outP1 Tryd.results16 (congrArg B ?_) hH5.below
  first | (rw [wrap_len hm2 hm1]; simp [*]; done) | (simp [*]; done)

theorem c_term_isRule (n : NodeR) (w : World) (hn : NodeV (Kw w) n) : Calls Tryd.prog 20 #[.agg (nodeL n).toArray] w (Pure (B (ruleB n.nd)) w) := by
 refine enter Tryd.func20 rfl Tryd.ntmps20 rfl ?_
 have hH := Hp.start w
 refine SR ?_
 refine RL.new rfl hH (f := fun b => (.pointer (some ⟨b, 0, none⟩))) (run_box (v := .agg _) rfl) ?_
 intro b3 w1 hH2
 refine V (aV (B false) rfl) ?_
 refine RL.nil ?_
 refine SR ?_
 refine V (fA underlying34 0 rfl sizeOf3 rfl) ?_
 refine V (run_ld underlying3 rfl rfl (hH2.cell (i := 0) rfl (v := I _) rfl)) ?_
 refine V (run_eql rfl rfl) ?_
 refine V (mV (B _) rfl) ?_
 refine RL.splitP (dj := 6) rfl (fun h5 => ?_) (fun h5 => ?_)
 ·refine RL.gT rfl (bT h5) ?_
  refine V (fA underlying34 2 rfl sizeOf9 rfl) ?_
  refine RL.gT rfl (bT h5) ?_
  refine V (run_ld underlying9 rfl rfl (hH2.cell (i := 0) rfl (v := .string _) rfl)) ?_
  refine RL.gT rfl (bT h5) ?_
  refine RL.callP rfl hH2 (c_name_Right _  _) (run_call1 call40 rfl) ?_
  intro w6 hH7
  refine V (run_pickT (bT h5) (v := B _) rfl) ?_
  refine V (mV (B _) rfl) ?_
  refine RL.split (dj := 11) rfl (fun h9 => ?_) (fun h9 => ?_)
  ·refine RL.gT rfl (bR (c := true) h9) ?_
   refine V (fA underlying34 3 rfl sizeOf31 rfl) ?_
   refine RL.gT rfl (bR (c := true) h9) ?_
   refine V (run_ldV (hn.names_.sl.hp hH7) underlying31 rfl rfl (hH7.cell (i := 0) rfl rfl)) ?_
   refine RL.gT rfl (bR (c := true) h9) ?_
   refine RL.callP rfl hH7 (c_term_right _ _  _ (hn.names_.sl.hp hH7)) (run_call1 call17 rfl) ?_
   intro w10 hH11
   refine V (run_pickT (bR (c := true) h9) (v := B _) rfl) ?_
   refine V (mV (B _) rfl) ?_
   refine RL.split (dj := 16) rfl (fun h13 => ?_) (fun h13 => ?_)
   ·refine RL.gT rfl (bR (c := true) h13) ?_
    refine V (fA underlying34 4 rfl sizeOf32 rfl) ?_
    refine RL.gT rfl (bR (c := true) h13) ?_
    refine V (run_ldV (hn.kids_.sl.hp hH11) underlying32 rfl rfl (hH11.cell (i := 0) rfl rfl)) ?_
    refine RL.gT rfl (bR (c := true) h13) ?_
    refine V (run_lenSl (hn.kids_.sl.hp hH11) rfl underlying32 rfl) ?_
    refine RL.gT rfl (bR (c := true) h13) ?_
    refine V (run_eql rfl rfl) ?_
    refine V (run_pickT (bR (c := true) h13) (v := B _) rfl) ?_
    refine V (aV (B _) rfl) ?_
    refine RL.nil ?_
    refine CW.ret ?_
    refine outP1 Tryd.results20 (congrArg B ?_) hH11.below
    (rw [rule_is]; simp [*])
   ·refine RL.gF rfl rfl (bR (c := false) h13) rfl ?_
    refine RL.gF rfl rfl (bR (c := false) h13) rfl ?_
    refine RL.gF rfl rfl (bR (c := false) h13) rfl ?_
    refine RL.gF rfl rfl (bR (c := false) h13) rfl ?_
    refine V (run_pickF (bR (c := false) h13) (v := B false) rfl) ?_
    refine V (aV (B _) rfl) ?_
    refine RL.nil ?_
    refine CW.ret ?_
    refine outP1 Tryd.results20 (congrArg B ?_) hH11.below
    (rw [rule_is]; simp [*])
  ·refine RL.gF rfl rfl (bR (c := false) h9) rfl ?_
   refine RL.gF rfl rfl (bR (c := false) h9) rfl ?_
   refine RL.gF rfl rfl (bR (c := false) h9) rfl ?_
   refine V (run_pickF (bR (c := false) h9) (v := B false) rfl) ?_
   refine V (mV (B _) rfl) ?_
   refine RL.gF rfl rfl rfl rfl ?_
   refine RL.gF rfl rfl rfl rfl ?_
   refine RL.gF rfl rfl rfl rfl ?_
   refine RL.gF rfl rfl rfl rfl ?_
   refine V (run_pickF rfl (v := B false) rfl) ?_
   refine V (aV (B _) rfl) ?_
   refine RL.nil ?_
   refine CW.ret ?_
   refine outP1 Tryd.results20 (congrArg B ?_) hH7.below
   (rw [rule_is]; simp [*])
 ·refine RL.gF rfl rfl (bF h5) rfl ?_
  refine RL.gF rfl rfl (bF h5) rfl ?_
  refine RL.gF rfl rfl (bF h5) rfl ?_
  refine V (run_pickF (bF h5) (v := B false) rfl) ?_
  refine V (mV (B _) rfl) ?_
  refine RL.gF rfl rfl rfl rfl ?_
  refine RL.gF rfl rfl rfl rfl ?_
  refine RL.gF rfl rfl rfl rfl ?_
  refine V (run_pickF rfl (v := B false) rfl) ?_
  refine V (mV (B _) rfl) ?_
  refine RL.gF rfl rfl rfl rfl ?_
  refine RL.gF rfl rfl rfl rfl ?_
  refine RL.gF rfl rfl rfl rfl ?_
  refine RL.gF rfl rfl rfl rfl ?_
  refine V (run_pickF rfl (v := B false) rfl) ?_
  refine V (aV (B _) rfl) ?_
  refine RL.nil ?_
  refine CW.ret ?_
  refine outP1 Tryd.results20 (congrArg B ?_) hH2.below
  (rw [rule_is]; simp [*])

theorem c_term_all (v : Value) (l : List NodeR) (f : FuncId) (cs : List Value) (Pd : NodeR → Bool) (w : World) (hs : Sl w v 5 l.length (l.flatMap nodeL)) (hv : NodesV (Kw w) l) (hf : ∀ args w, (callFunc f args).run Tryd.prog w = .ok (.enter f args) w) (go : ∀ x ∈ l, ∀ w', Below w.heap.size w w' → Calls Tryd.prog f (.agg (nodeL x).toArray :: cs).toArray w' (Pure (B (Pd x)) w')) : Calls Tryd.prog 19 #[v, .func (.func f) #[] cs.toArray] w (Pure (B (l.all Pd)) w) := by
 have hm := hs.small
 unfold maxLen at hm
 refine enter Tryd.func19 rfl Tryd.ntmps19 rfl ?_
 have hH := Hp.start w
 refine SR ?_
 refine V (aV (B false) rfl) ?_
 refine RL.nil ?_
 refine CW.seq ?_
 refine SR ?_
 refine V (run_move (by conv => lhs; whnf)) ?_
 refine V (run_lenSl (hs.hp hH) rfl underlying32 rfl) ?_
 refine V (mV (I 0) rfl) ?_
 refine RL.nil ?_
 refine CW.block ?_
 refine CW.loop (G := (Int)) (fun (k : Int) s' w' => (Fr [4, 6, 9, 10, 11, 12, 13, 14, 15, 16, 17] _ s') ∧ (Hp w w' _) ∧ (s' 9 = I k) ∧ (0 ≤ k) ∧ (k ≤ l.length) ∧ (∀ j : Int, 0 ≤ j → j < k → Pd (l.getD j.toNat node0) = true)) (fun (k : Int) => (l.length - k).toNat) (0) ⟨Fr.refl _ _, hH, rfl, (by omega), (by omega), fun j a b => absurd b (by omega)⟩ ?_
 rintro k sg1 w1 ⟨fr1, hH1, e9_1, h0, hk, hg⟩
 have e1_1 : sg1 1 = .func _ _ _ := (fr1 1 rfl).trans rfl
 have e7_1 := (fr1 7 rfl).trans (by conv => lhs; whnf)
 have e8_1 : sg1 8 = I _ := (fr1 8 rfl).trans rfl
 refine SR ?_
 refine V (run_lss e9_1 e8_1) ?_
 refine RL.nil ?_
 refine CW.seq ?_
 refine CW.condP rfl (fun h3 => ?_) (fun h3 => ?_)
 ·refine CW.skip ?_
  refine CW.seq ?_
  refine CW.block ?_
  refine SR ?_
  refine V (run_indexAddrS (hs.hp hH1) underlying32 sizeOf34 e7_1 e9_1 (by omega)) ?_
  refine V (run_ldE (dv := node0) nodeL_len (hs.hp hH1) underlying34 rfl rfl rfl (by omega)) ?_
  refine RL.new rfl hH1 (f := fun b => (.pointer (some ⟨b, 0, none⟩))) (run_alloc Tryd.zeroValue34) ?_
  intro b6 w4 hH5
  refine RL.set hH5 (i := 0) rfl (run_stW (c' := (nodeL _).toArray) rfl rfl rfl (nodeL_one (hv.at (by omega) (by omega))) (hH5.blk (i := 0) rfl) rfl) ?_
  intro w7 hH8
  simp only [z0, z1] at hH8
  refine RL.nil ?_
  refine SR ?_
  refine V (run_move e1_1) ?_
  refine V (run_ldA (cs := nodeL _) underlying34 rfl rfl rfl (rangeAt_cells (hH8.blk (i := 0) rfl))) ?_
  refine RL.callP rfl hH8 (go _ (List.mem_of_getElem? (getD_at (d := node0) h0 ‹k < _›)) _ hH8.below) (run_callC1 hf (cs := cs) rfl rfl) ?_
  intro w9 hH10
  refine V (run_not rfl) ?_
  refine RL.nil ?_
  refine CW.cond rfl (fun h13 => ?_) (fun h13 => ?_)
  ·refine SR ?_
   refine V (aV (B false) rfl) ?_
   refine RL.nil ?_
   refine CW.ret ?_
   refine outP1 Tryd.results19 (congrArg B ?_) hH10.below
   first | exact (all_no h0 ‹k < _› (nt ‹(!Pd _) = true›)).symm | exact (all_yes ‹¬ k < _› hg).symm
  ·refine CW.skip ?_
   refine CW.region ?_
   refine V (run_add e9_1 rfl (by omega)) ?_
   refine V (mV (I _) rfl) ?_
   refine RL.nil ?_
   refine ⟨k + 1, ?_, fr1.u4.u4.u1.u1, (hH10.sub (sQ sR)), (congrArg I (by first | rfl | omega)), ?_, ?_, ?_⟩
   ·((try dsimp only); omega)
   ·omega
   ·omega
   ·exact fun j a b => if e : j = k then e ▸ nf ‹(!Pd _) = false› else hg j a (by omega)
 ·refine CW.exit (id := 0) rfl ?_
  refine SR ?_
  refine V (aV (B true) rfl) ?_
  refine RL.nil ?_
  refine CW.ret ?_
  refine outP1 Tryd.results19 (congrArg B ?_) hH1.below
  first | exact (all_no h0 ‹k < _› (nt ‹(!Pd _) = true›)).symm | exact (all_yes ‹¬ k < _› hg).symm

theorem s_isconst (n : NodeR) (w : World) (hn : NodeV (Kw w) n) (ih : ∀ x ∈ n.kids, ∀ w, NodeV (Kw w) x → Calls Tryd.prog 9 #[.agg (nodeL x).toArray] w (Pure (B (constB x.nd)) w)) : Calls Tryd.prog 9 #[.agg (nodeL n).toArray] w (Pure (B (constB n.nd)) w) := by
 have hm1 := hn.kids_.small
 have hm2 := hn.names_.small
 unfold maxLen at hm1 hm2
 refine enter Tryd.func9 rfl Tryd.ntmps9 rfl ?_
 have hH := Hp.start w
 refine SR ?_
 refine RL.new rfl hH (f := fun b => (.pointer (some ⟨b, 0, none⟩))) (run_box (v := .agg _) rfl) ?_
 intro b3 w1 hH2
 refine V (aV (B false) rfl) ?_
 refine RL.nil ?_
 refine CW.seq ?_
 refine SR ?_
 refine V (fA underlying34 0 rfl sizeOf3 rfl) ?_
 refine V (run_ld underlying3 rfl rfl (hH2.cell (i := 0) rfl (v := I _) rfl)) ?_
 refine RL.nil ?_
 refine CW.block ?_
 refine SR ?_
 refine V (run_eql rfl rfl) ?_
 refine V (aV (B _) rfl) ?_
 refine RL.nil ?_
 refine CW.condP rfl (fun h5 => ?_) (fun h5 => ?_)
 ·refine SR ?_
  refine V (run_ldA (cs := nodeL _) underlying34 rfl rfl rfl (rangeAt_cells (hH2.blk (i := 0) rfl))) ?_
  refine RL.callP rfl hH2 (c_term_leaf _  _ (hn.mono hH2.kw)) (run_call1 call16 rfl) ?_
  intro w6 hH7
  refine V (aV (B _) rfl) ?_
  refine RL.nil ?_
  refine CW.ret ?_
  refine outP1 Tryd.results9 (congrArg B ?_) hH7.below
  first | (rw [const_2 ‹n.kind = 2›]; done) | (rw [const_3 ‹n.kind = 3›]; simp [*]; done) | exact const_4y ‹_› ‹_› ‹_› | exact const_4n ‹_› ‹_› | exact const_4k ‹_› ‹_› | exact const_5y ‹_› ‹_› | exact const_5n ‹_› ‹_› | exact (const_x ‹_› ‹_› ‹_› ‹_›).symm
 ·refine SR ?_
  refine V (run_eql rfl rfl) ?_
  refine V (aV (B _) rfl) ?_
  refine RL.nil ?_
  refine CW.condP rfl (fun h10 => ?_) (fun h10 => ?_)
  ·refine SR ?_
   refine V (fA underlying34 2 rfl sizeOf9 rfl) ?_
   refine V (run_ld underlying9 rfl rfl (hH2.cell (i := 0) rfl (v := .string _) rfl)) ?_
   refine V (run_eqlS rfl rfl) ?_
   refine V (mV (B _) rfl) ?_
   refine RL.splitP (dj := 14) rfl (fun h12 => ?_) (fun h12 => ?_)
   ·refine RL.gT rfl (bT h12) ?_
    refine V (fA underlying34 3 rfl sizeOf31 rfl) ?_
    refine RL.gT rfl (bT h12) ?_
    refine V (run_ldV (hn.names_.sl.hp hH2) underlying31 rfl rfl (hH2.cell (i := 0) rfl rfl)) ?_
    refine RL.gT rfl (bT h12) ?_
    refine RL.callP rfl hH2 (c_term_right _ _  _ (hn.names_.sl.hp hH2)) (run_call1 call17 rfl) ?_
    intro w13 hH14
    refine V (run_pickT (bT h12) (v := B _) rfl) ?_
    refine V (mV (B _) rfl) ?_
    refine RL.split (dj := 19) rfl (fun h16 => ?_) (fun h16 => ?_)
    ·refine RL.gT rfl (bR (c := true) h16) ?_
     refine V (fA underlying34 4 rfl sizeOf32 rfl) ?_
     refine RL.gT rfl (bR (c := true) h16) ?_
     refine V (run_ldV (hn.kids_.sl.hp hH14) underlying32 rfl rfl (hH14.cell (i := 0) rfl rfl)) ?_
     refine RL.gT rfl (bR (c := true) h16) ?_
     refine V (run_lenSl (hn.kids_.sl.hp hH14) rfl underlying32 rfl) ?_
     refine RL.gT rfl (bR (c := true) h16) ?_
     refine V (run_eql rfl rfl) ?_
     refine V (run_pickT (bR (c := true) h16) (v := B _) rfl) ?_
     refine V (aV (B _) rfl) ?_
     refine RL.nil ?_
     refine CW.ret ?_
     refine outP1 Tryd.results9 (congrArg B ?_) hH14.below
     first | (rw [const_2 ‹n.kind = 2›]; done) | (rw [const_3 ‹n.kind = 3›]; simp [*]; done) | exact const_4y ‹_› ‹_› ‹_› | exact const_4n ‹_› ‹_› | exact const_4k ‹_› ‹_› | exact const_5y ‹_› ‹_› | exact const_5n ‹_› ‹_› | exact (const_x ‹_› ‹_› ‹_› ‹_›).symm
    ·refine RL.gF rfl rfl (bR (c := false) h16) rfl ?_
     refine RL.gF rfl rfl (bR (c := false) h16) rfl ?_
     refine RL.gF rfl rfl (bR (c := false) h16) rfl ?_
     refine RL.gF rfl rfl (bR (c := false) h16) rfl ?_
     refine V (run_pickF (bR (c := false) h16) (v := B false) rfl) ?_
     refine V (aV (B _) rfl) ?_
     refine RL.nil ?_
     refine CW.ret ?_
     refine outP1 Tryd.results9 (congrArg B ?_) hH14.below
     first | (rw [const_2 ‹n.kind = 2›]; done) | (rw [const_3 ‹n.kind = 3›]; simp [*]; done) | exact const_4y ‹_› ‹_› ‹_› | exact const_4n ‹_› ‹_› | exact const_4k ‹_› ‹_› | exact const_5y ‹_› ‹_› | exact const_5n ‹_› ‹_› | exact (const_x ‹_› ‹_› ‹_› ‹_›).symm
   ·refine RL.gF rfl rfl (bF h12) rfl ?_
    refine RL.gF rfl rfl (bF h12) rfl ?_
    refine RL.gF rfl rfl (bF h12) rfl ?_
    refine V (run_pickF (bF h12) (v := B false) rfl) ?_
    refine V (mV (B _) rfl) ?_
    refine RL.gF rfl rfl rfl rfl ?_
    refine RL.gF rfl rfl rfl rfl ?_
    refine RL.gF rfl rfl rfl rfl ?_
    refine RL.gF rfl rfl rfl rfl ?_
    refine V (run_pickF rfl (v := B false) rfl) ?_
    refine V (aV (B _) rfl) ?_
    refine RL.nil ?_
    refine CW.ret ?_
    refine outP1 Tryd.results9 (congrArg B ?_) hH2.below
    first | (rw [const_2 ‹n.kind = 2›]; done) | (rw [const_3 ‹n.kind = 3›]; simp [*]; done) | exact const_4y ‹_› ‹_› ‹_› | exact const_4n ‹_› ‹_› | exact const_4k ‹_› ‹_› | exact const_5y ‹_› ‹_› | exact const_5n ‹_› ‹_› | exact (const_x ‹_› ‹_› ‹_› ‹_›).symm
  ·refine SR ?_
   refine V (run_eql rfl rfl) ?_
   refine V (aV (B _) rfl) ?_
   refine RL.nil ?_
   refine CW.condP rfl (fun h19 => ?_) (fun h19 => ?_)
   ·refine SR ?_
    refine V (run_ldA (cs := nodeL _) underlying34 rfl rfl rfl (rangeAt_cells (hH2.blk (i := 0) rfl))) ?_
    refine RL.callP rfl hH2 (c_term_bare _  _ (hn.mono hH2.kw)) (run_call1 call18 rfl) ?_
    intro w20 hH21
    refine V (mV (B _) rfl) ?_
    refine RL.splitP (dj := 29) rfl (fun h24 => ?_) (fun h24 => ?_)
    ·refine RL.gT rfl (bT h24) ?_
     refine V (fA underlying34 4 rfl sizeOf32 rfl) ?_
     refine RL.gT rfl (bT h24) ?_
     refine V (run_ldV (hn.kids_.sl.hp hH21) underlying32 rfl rfl (hH21.cell (i := 0) rfl rfl)) ?_
     refine RL.gT rfl (bT h24) ?_
     refine V (run_lenSl (hn.kids_.sl.hp hH21) rfl underlying32 rfl) ?_
     refine RL.gT rfl (bT h24) ?_
     refine V (run_gtr rfl rfl) ?_
     refine V (run_pickT (bT h24) (v := B _) rfl) ?_
     refine V (mV (B _) rfl) ?_
     refine RL.splitP (dj := 35) rfl (fun h26 => ?_) (fun h26 => ?_)
     ·refine RL.gT rfl (bT h26) ?_
      refine V (fA underlying34 4 rfl sizeOf32 rfl) ?_
      refine RL.gT rfl (bT h26) ?_
      refine V (run_ldV (hn.kids_.sl.hp hH21) underlying32 rfl rfl (hH21.cell (i := 0) rfl rfl)) ?_
      refine RL.gT rfl (bT h26) ?_
      refine RL.callP rfl hH21 (c_term_all _ n.kids 9 [] (fun x => constB x.nd) _ (hn.kids_.sl.hp hH21) ⟨(NodeV.mono hH21.kw hn).each⟩ call9 fun x hx w' hb => ih x hx w' (NodeV.mono (hH21.kw.trans (Kw.below hb)) (hn.each x hx))) (run_call2 call19 rfl rfl) ?_
      intro w27 hH28
      refine V (run_pickT (bT h26) (v := B _) rfl) ?_
      refine V (aV (B _) rfl) ?_
      refine RL.nil ?_
      refine CW.ret ?_
      refine outP1 Tryd.results9 (congrArg B ?_) hH28.below
      first | (rw [const_2 ‹n.kind = 2›]; done) | (rw [const_3 ‹n.kind = 3›]; simp [*]; done) | exact const_4y ‹_› ‹_› ‹_› | exact const_4n ‹_› ‹_› | exact const_4k ‹_› ‹_› | exact const_5y ‹_› ‹_› | exact const_5n ‹_› ‹_› | exact (const_x ‹_› ‹_› ‹_› ‹_›).symm
     ·refine RL.gF rfl rfl (bF h26) rfl ?_
      refine RL.gF rfl rfl (bF h26) rfl ?_
      refine RL.gF rfl rfl (bF h26) rfl ?_
      refine V (run_pickF (bF h26) (v := B false) rfl) ?_
      refine V (aV (B _) rfl) ?_
      refine RL.nil ?_
      refine CW.ret ?_
      refine outP1 Tryd.results9 (congrArg B ?_) hH21.below
      first | (rw [const_2 ‹n.kind = 2›]; done) | (rw [const_3 ‹n.kind = 3›]; simp [*]; done) | exact const_4y ‹_› ‹_› ‹_› | exact const_4n ‹_› ‹_› | exact const_4k ‹_› ‹_› | exact const_5y ‹_› ‹_› | exact const_5n ‹_› ‹_› | exact (const_x ‹_› ‹_› ‹_› ‹_›).symm
    ·refine RL.gF rfl rfl (bF h24) rfl ?_
     refine RL.gF rfl rfl (bF h24) rfl ?_
     refine RL.gF rfl rfl (bF h24) rfl ?_
     refine RL.gF rfl rfl (bF h24) rfl ?_
     refine V (run_pickF (bF h24) (v := B false) rfl) ?_
     refine V (mV (B _) rfl) ?_
     refine RL.gF rfl rfl rfl rfl ?_
     refine RL.gF rfl rfl rfl rfl ?_
     refine RL.gF rfl rfl rfl rfl ?_
     refine V (run_pickF rfl (v := B false) rfl) ?_
     refine V (aV (B _) rfl) ?_
     refine RL.nil ?_
     refine CW.ret ?_
     refine outP1 Tryd.results9 (congrArg B ?_) hH21.below
     first | (rw [const_2 ‹n.kind = 2›]; done) | (rw [const_3 ‹n.kind = 3›]; simp [*]; done) | exact const_4y ‹_› ‹_› ‹_› | exact const_4n ‹_› ‹_› | exact const_4k ‹_› ‹_› | exact const_5y ‹_› ‹_› | exact const_5n ‹_› ‹_› | exact (const_x ‹_› ‹_› ‹_› ‹_›).symm
   ·refine SR ?_
    refine V (run_eql rfl rfl) ?_
    refine V (aV (B _) rfl) ?_
    refine RL.nil ?_
    refine CW.condP rfl (fun h31 => ?_) (fun h31 => ?_)
    ·refine SR ?_
     refine V (run_ldA (cs := nodeL _) underlying34 rfl rfl rfl (rangeAt_cells (hH2.blk (i := 0) rfl))) ?_
     refine RL.callP rfl hH2 (c_term_bare _  _ (hn.mono hH2.kw)) (run_call1 call18 rfl) ?_
     intro w32 hH33
     refine V (mV (B _) rfl) ?_
     refine RL.splitP (dj := 44) rfl (fun h36 => ?_) (fun h36 => ?_)
     ·refine RL.gT rfl (bT h36) ?_
      refine V (fA underlying34 4 rfl sizeOf32 rfl) ?_
      refine RL.gT rfl (bT h36) ?_
      refine V (run_ldV (hn.kids_.sl.hp hH33) underlying32 rfl rfl (hH33.cell (i := 0) rfl rfl)) ?_
      refine RL.gT rfl (bT h36) ?_
      refine RL.callP rfl hH33 (c_term_all _ n.kids 20 [] (fun x => ruleB x.nd) _ (hn.kids_.sl.hp hH33) ⟨(NodeV.mono hH33.kw hn).each⟩ call20 fun x hx w' hb => c_term_isRule x w' (NodeV.mono (hH33.kw.trans (Kw.below hb)) (hn.each x hx))) (run_call2 call19 rfl rfl) ?_
      intro w37 hH38
      refine V (run_pickT (bT h36) (v := B _) rfl) ?_
      refine V (aV (B _) rfl) ?_
      refine RL.nil ?_
      refine CW.ret ?_
      refine outP1 Tryd.results9 (congrArg B ?_) hH38.below
      first | (rw [const_2 ‹n.kind = 2›]; done) | (rw [const_3 ‹n.kind = 3›]; simp [*]; done) | exact const_4y ‹_› ‹_› ‹_› | exact const_4n ‹_› ‹_› | exact const_4k ‹_› ‹_› | exact const_5y ‹_› ‹_› | exact const_5n ‹_› ‹_› | exact (const_x ‹_› ‹_› ‹_› ‹_›).symm
     ·refine RL.gF rfl rfl (bF h36) rfl ?_
      refine RL.gF rfl rfl (bF h36) rfl ?_
      refine RL.gF rfl rfl (bF h36) rfl ?_
      refine V (run_pickF (bF h36) (v := B false) rfl) ?_
      refine V (aV (B _) rfl) ?_
      refine RL.nil ?_
      refine CW.ret ?_
      refine outP1 Tryd.results9 (congrArg B ?_) hH33.below
      first | (rw [const_2 ‹n.kind = 2›]; done) | (rw [const_3 ‹n.kind = 3›]; simp [*]; done) | exact const_4y ‹_› ‹_› ‹_› | exact const_4n ‹_› ‹_› | exact const_4k ‹_› ‹_› | exact const_5y ‹_› ‹_› | exact const_5n ‹_› ‹_› | exact (const_x ‹_› ‹_› ‹_› ‹_›).symm
    ·refine CW.skip ?_
     refine SR ?_
     refine V (aV (B false) rfl) ?_
     refine RL.nil ?_
     refine CW.ret ?_
     refine outP1 Tryd.results9 (congrArg B ?_) hH2.below
     first | (rw [const_2 ‹n.kind = 2›]; done) | (rw [const_3 ‹n.kind = 3›]; simp [*]; done) | exact const_4y ‹_› ‹_› ‹_› | exact const_4n ‹_› ‹_› | exact const_4k ‹_› ‹_› | exact const_5y ‹_› ‹_› | exact const_5n ‹_› ‹_› | exact (const_x ‹_› ‹_› ‹_› ‹_›).symm
theorem c_term_IsConst (n : NodeR) : ∀ w, NodeV (Kw w) n → Calls Tryd.prog 9 #[.agg (nodeL n).toArray] w (Pure (B (constB n.nd)) w) := node_ind (C := fun n => ∀ w, NodeV (Kw w) n → Calls Tryd.prog 9 #[.agg (nodeL n).toArray] w (Pure (B (constB n.nd)) w)) (fun n ih w hn => s_isconst n w hn ih) n

theorem c_spell_reader_fail (W0 : World) (b : Nat) (s : RS) (L : List Ent) (a : Int) (w : World) (hH : Hp W0 w (.blk b (.cells #[B s.1, I s.2] 57 (0, 0)) :: L)) : Calls Tryd.prog 36 #[.pointer (some ⟨b, 0, none⟩), I a] w (Ret fun u w' => ∃ (y : BitVec 64) (s' : RS), u = U y ∧ (y = 0#64 ∧ s' = failF s a) ∧ Hp W0 w' (.blk b (.cells #[B s'.1, I s'.2] 57 (0, 0)) :: L)) := by
 refine enter Tryd.func36 rfl Tryd.ntmps36 rfl ?_
 refine SR ?_
 refine V (aV (U 0#64) rfl) ?_
 refine RL.nil ?_
 refine CW.seq ?_
 refine SR ?_
 refine V (mV (Pn _ _) rfl) ?_
 refine V (run_nilCheck rfl) ?_
 refine V (fA underlying57 0 rfl sizeOf4 rfl) ?_
 refine V (run_ld underlying4 rfl rfl (hH.cell (i := 0) rfl (v := B _) rfl)) ?_
 refine V (run_not rfl) ?_
 refine RL.nil ?_
 refine CW.cond rfl (fun h3 => ?_) (fun h3 => ?_)
 ·refine CW.region ?_
  refine V (mV (Pn _ _) rfl) ?_
  refine V (mV (Pn _ _) rfl) ?_
  refine V (mV (I _) rfl) ?_
  refine V (run_nilCheck rfl) ?_
  refine V (fA underlying57 0 rfl sizeOf4 rfl) ?_
  refine RL.set hH (i := 0) rfl (run_st rfl rfl (v := B true) rfl rfl rfl (hH.blk (i := 0) rfl) (by first | decide | simp)) ?_
  intro w4 hH5
  simp only [z0, z1] at hH5
  refine V (run_nilCheck rfl) ?_
  refine V (fA underlying57 1 rfl sizeOf3 rfl) ?_
  refine RL.set hH5 (i := 0) rfl (run_st rfl rfl (v := I _) rfl rfl rfl (hH5.blk (i := 0) rfl) (by first | decide | simp)) ?_
  intro w6 hH7
  simp only [z0, z1] at hH7
  refine RL.nil ?_
  refine SR ?_
  refine V (aV (U 0#64) rfl) ?_
  refine RL.nil ?_
  refine CW.ret ?_
  exact out1 Tryd.results36 rfl ⟨_, failF s a, rfl, by exact ⟨rfl, rfl⟩, Hp.conv (hH7.sub sR) (by first | (rw [fail_f (nt ‹_›)]; rfl) | (rw [fail_t (nf ‹_›)]))⟩
 ·refine CW.skip ?_
  refine SR ?_
  refine V (aV (U 0#64) rfl) ?_
  refine RL.nil ?_
  refine CW.ret ?_
  exact out1 Tryd.results36 rfl ⟨_, failF s a, rfl, by exact ⟨rfl, rfl⟩, Hp.conv (hH.sub sR) (by first | (rw [fail_f (nt ‹_›)]; rfl) | (rw [fail_t (nf ‹_›)]))⟩

theorem c_spell_reader_places (W0 : World) (b : Nat) (s : RS) (L : List Ent) (v : Value) (l : List Tx) (v2 : Value) (ws : List Wd) (w : World) (hs : Sl W0 v 1 l.length (txL l)) (hw : Sl W0 v2 2 ws.length (ws.flatMap wdL)) (hH : Hp W0 w (.blk b (.cells #[B s.1, I s.2] 57 (0, 0)) :: L)) : Calls Tryd.prog 37 #[.pointer (some ⟨b, 0, none⟩), v, v2] w (Ret fun u w' => ∃ (y : BitVec 64) (s' : RS), u = U y ∧ (okR (placesG l ws) s y s') ∧ Hp W0 w' (.blk b (.cells #[B s'.1, I s'.2] 57 (0, 0)) :: L)) := by
 have hm1 := hw.small
 unfold maxLen at hm1
 refine enter Tryd.func37 rfl Tryd.ntmps37 rfl ?_
 refine SR ?_
 refine V (aV (U 0#64) rfl) ?_
 refine RL.nil ?_
 refine SR ?_
 refine V (aV (U 0#64) rfl) ?_
 refine RL.nil ?_
 refine CW.seq ?_
 refine SR ?_
 refine V (run_move (by conv => lhs; whnf)) ?_
 refine V (run_lenSl (hw.hp hH) rfl underlying31 rfl) ?_
 refine V (mV (I 0) rfl) ?_
 refine RL.nil ?_
 refine CW.block ?_
 refine CW.loop (G := (Int) × (BitVec 64)) (fun (⟨k, m⟩ : (Int) × (BitVec 64)) s' w' => (Fr [6, 7, 9, 10, 13, 14, 15, 16, 17, 18, 19, 20, 21, 22, 23, 24, 25, 26, 27, 28, 29, 30] _ s') ∧ (Hp W0 w' _) ∧ (s' 7 = U m) ∧ (s' 13 = I k) ∧ (0 ≤ k) ∧ (k ≤ ws.length) ∧ (gotP l ws 0#64 = gotP l (ws.drop k.toNat) m)) (fun (⟨k, m⟩ : (Int) × (BitVec 64)) => (ws.length - k).toNat) ((0, 0#64)) ⟨Fr.refl _ _, hH, rfl, rfl, (by omega), (by omega), rfl⟩ ?_
 rintro ⟨k, m⟩ sg1 w1 ⟨fr1, hH1, e7_1, e13_1, h0, hk, hm⟩
 have e0_1 : sg1 0 = Pn _ _ := (fr1 0 rfl).trans rfl
 have e1_1 := (fr1 1 rfl).trans (by conv => lhs; whnf)
 have e11_1 := (fr1 11 rfl).trans (by conv => lhs; whnf)
 have e12_1 : sg1 12 = I _ := (fr1 12 rfl).trans rfl
 refine SR ?_
 refine V (run_lss e13_1 e12_1) ?_
 refine RL.nil ?_
 refine CW.seq ?_
 refine CW.condP rfl (fun h3 => ?_) (fun h3 => ?_)
 ·refine CW.skip ?_
  refine CW.seq ?_
  refine CW.block ?_
  refine SR ?_
  refine V (run_indexAddrS (hw.hp hH1) underlying31 sizeOf51 e11_1 e13_1 (by omega)) ?_
  refine V (run_ldE (dv := wd0) wdL_len (hw.hp hH1) underlying51 rfl rfl rfl (by omega)) ?_
  refine RL.new rfl hH1 (f := fun b => (.pointer (some ⟨b, 0, none⟩))) (run_alloc Tryd.zeroValue51) ?_
  intro b6 w4 hH5
  refine RL.set hH5 (i := 0) rfl (run_stW (c' := (wdL _).toArray) rfl rfl rfl (by simp [wdL, Value.oneCell']) (hH5.blk (i := 0) rfl) rfl) ?_
  intro w7 hH8
  simp only [z0, z1] at hH8
  refine RL.nil ?_
  refine SR ?_
  refine V (run_move e1_1) ?_
  refine V (fA underlying51 0 rfl sizeOf9 rfl) ?_
  refine V (run_ld underlying9 rfl rfl (hH8.cell (i := 0) rfl (v := .string _) rfl)) ?_
  refine RL.callP rfl hH8 (c_name_Find _ _ _  _ (hs.hp hH8)) (run_call2 call58 rfl rfl) ?_
  intro w9 hH10
  refine V (aV (I _) rfl) ?_
  refine RL.nil ?_
  refine CW.seq ?_
  refine SR ?_
  refine V (mV (I _) rfl) ?_
  refine V (run_lss rfl rfl) ?_
  refine RL.nil ?_
  refine CW.condP rfl (fun h12 => ?_) (fun h12 => ?_)
  ·refine SR ?_
   refine V (run_move e0_1) ?_
   refine V (fA underlying51 1 rfl sizeOf3 rfl) ?_
   refine V (run_ld underlying3 rfl rfl (hH10.cell (i := 0) rfl (v := I _) rfl)) ?_
   refine RL.callT rfl (c_spell_reader_fail _ _ _ _ _ _ (hH10.perm (((pC pR).trans pS).trans (pC pR)))) (run_call2 call36 rfl rfl) ?_
   rintro _ w18 ⟨_, _, rfl, ⟨rfl, rfl⟩, h19⟩
   have hH20 := h19.perm (((pC pR).trans pS).trans (pC pR))
   refine V (aV (U _) rfl) ?_
   refine RL.nil ?_
   refine CW.ret ?_
   exact out1 Tryd.results37 rfl ⟨_, (failF s (ws.getD k.toNat wd0).place), rfl, by first | exact ok_err (got_no h0 ‹k < _› hm ‹_›) | exact ok_ok (got_end ‹_› hm), Hp.conv ((hH20.perm (((pC pR).trans pS).trans (pC pR))).sub (sP (sQ sR))) (by rfl)⟩
  ·refine CW.skip ?_
   refine CW.region ?_
   refine V (run_move e7_1) ?_
   refine V (mV (I _) rfl) ?_
   refine RL.callP rfl hH10 (c_mask_With _ _  _) (run_call2 call55 rfl rfl) ?_
   intro w21 hH22
   refine V (aV (U _) rfl) ?_
   refine RL.nil ?_
   refine CW.region ?_
   refine V (run_add e13_1 rfl (by omega)) ?_
   refine V (mV (I _) rfl) ?_
   refine RL.nil ?_
   refine ⟨(k + 1, _), ?_, fr1.u4.u4.u4.u4.u1, (hH22.sub (sQ sR)), rfl, (congrArg I (by first | rfl | omega)), ?_, ?_, ?_⟩
   ·((try dsimp only); omega)
   ·omega
   ·omega
   ·exact got_next h0 ‹k < _› hm ‹_›
 ·refine CW.exit (id := 0) rfl ?_
  refine SR ?_
  refine V (run_move e7_1) ?_
  refine V (aV (U _) rfl) ?_
  refine RL.nil ?_
  refine CW.ret ?_
  exact out1 Tryd.results37 rfl ⟨_, s, rfl, by first | exact ok_err (got_no h0 ‹k < _› hm ‹_›) | exact ok_ok (got_end ‹_› hm), Hp.conv (hH1.sub sR) (by rfl)⟩

theorem c_spell_reader_point (W0 : World) (b : Nat) (s : RS) (L : List Ent) (f : Fac) (n : NodeR) (w : World) (hT : Tab W0) (hf : FacV (Kw W0) f) (hn : NodeV (Kw W0) n) (hH : Hp W0 w (.blk b (.cells #[B s.1, I s.2] 57 (0, 0)) :: L)) : Calls Tryd.prog 39 #[.pointer (some ⟨b, 0, none⟩), .agg (facC f), .agg (nodeL n).toArray] w (Ret fun u w' => ∃ (y : BitVec 64) (s' : RS), u = U y ∧ (okR (pointG f.fc n.nd) s y s') ∧ Hp W0 w' (.blk b (.cells #[B s'.1, I s'.2] 57 (0, 0)) :: L)) := by
 refine enter Tryd.func39 rfl Tryd.ntmps39 rfl ?_
 refine SR ?_
 refine RL.new rfl hH (f := fun b => (.pointer (some ⟨b, 0, none⟩))) (run_box (v := .agg _) rfl) ?_
 intro b3 w1 hH2
 refine RL.new rfl hH2 (f := fun b => (.pointer (some ⟨b, 0, none⟩))) (run_box (v := .agg _) rfl) ?_
 intro b6 w4 hH5
 refine V (aV (U 0#64) rfl) ?_
 refine RL.nil ?_
 refine SR ?_
 refine V (fA underlying48 1 rfl sizeOf43 rfl) ?_
 refine V (run_ld underlying43 rfl rfl (hH5.cell (i := 1) rfl rfl)) ?_
 refine V (fA underlying34 2 rfl sizeOf9 rfl) ?_
 refine V (run_ld underlying9 rfl rfl (hH5.cell (i := 0) rfl (v := .string _) rfl)) ?_
 refine RL.callP rfl hH5 (c_name_Find _ _ _  _ (hf.names.sl.hp hH5)) (run_call2 call58 rfl rfl) ?_
 intro w7 hH8
 refine V (aV (I _) rfl) ?_
 refine RL.nil ?_
 refine CW.seq ?_
 refine SR ?_
 refine V (mV (I _) rfl) ?_
 refine V (run_lss rfl rfl) ?_
 refine RL.nil ?_
 refine CW.condP rfl (fun h10 => ?_) (fun h10 => ?_)
 ·refine SR ?_
  refine V (mV (Pn _ _) rfl) ?_
  refine V (fA underlying34 1 rfl sizeOf3 rfl) ?_
  refine V (run_ld underlying3 rfl rfl (hH8.cell (i := 0) rfl (v := I _) rfl)) ?_
  refine RL.callT rfl (c_spell_reader_fail _ _ _ _ _ _ (hH8.perm (((pC ((pC pR).trans pS)).trans pS).trans (pC pR)))) (run_call2 call36 rfl rfl) ?_
  rintro _ w16 ⟨_, _, rfl, ⟨rfl, rfl⟩, h17⟩
  have hH18 := h17.perm (((pC pR).trans pS).trans (pC (((pC pR).trans pS).trans (pC pR))))
  refine V (aV (U _) rfl) ?_
  refine RL.nil ?_
  refine CW.ret ?_
  exact out1 Tryd.results39 rfl ⟨_, (failF s n.place), rfl, by first | exact pt_no ‹_› | exact pt_4 ‹_› ‹_› | exact pt_1 ‹_› ‹_›, Hp.conv ((hH18.perm (((pC ((pC pR).trans pS)).trans pS).trans (pC pR))).sub (sP (sQ (sQ sR)))) (by rfl)⟩
 ·refine CW.skip ?_
  refine CW.seq ?_
  refine SR ?_
  refine V (fA underlying48 0 rfl sizeOf3 rfl) ?_
  refine V (run_ld underlying3 rfl rfl (hH8.cell (i := 1) rfl (v := I _) rfl)) ?_
  refine V (run_eql rfl rfl) ?_
  refine RL.nil ?_
  refine CW.condP rfl (fun h20 => ?_) (fun h20 => ?_)
  ·refine SR ?_
   refine V (fA underlying48 2 rfl sizeOf46 rfl) ?_
   refine V (run_ldBR underlying46 rfl rfl rfl (hH8.blk (i := 1) rfl)) ?_
   refine V (mV (I _) rfl) ?_
   refine RL.callP rfl hH8 (c_hasse_Word _ _  _ (hT.hp hH8)) (run_call2 call51 rfl rfl) ?_
   intro w21 hH22
   refine V (aV (U _) rfl) ?_
   refine RL.nil ?_
   refine CW.ret ?_
   exact out1 Tryd.results39 rfl ⟨_, s, rfl, by first | exact pt_no ‹_› | exact pt_4 ‹_› ‹_› | exact pt_1 ‹_› ‹_›, Hp.conv ((hH22.perm (((pC ((pC pR).trans pS)).trans pS).trans (pC pR))).sub (sP (sQ (sQ sR)))) (by rfl)⟩
  ·refine CW.skip ?_
   refine SR ?_
   refine V (fA underlying48 1 rfl sizeOf43 rfl) ?_
   refine V (run_ld underlying43 rfl rfl (hH8.cell (i := 1) rfl rfl)) ?_
   refine V (run_lenSl (hf.names.sl.hp hH8) rfl underlying43 rfl) ?_
   refine V (mV (I _) rfl) ?_
   refine RL.callP rfl hH8 (c_rung_Word _ _  _) (run_call2 call60 rfl rfl) ?_
   intro w23 hH24
   refine V (run_move (by conv => lhs; whnf)) ?_
   refine V (run_extract rfl (v := U _) rfl) ?_
   refine V (run_extract rfl (v := B _) rfl) ?_
   refine V (aV (U _) rfl) ?_
   refine V (aV (B _) rfl) ?_
   refine RL.nil ?_
   refine SR ?_
   refine V (mV (U _) rfl) ?_
   refine V (aV (U _) rfl) ?_
   refine RL.nil ?_
   refine CW.ret ?_
   exact out1 Tryd.results39 rfl ⟨_, s, rfl, by first | exact pt_no ‹_› | exact pt_4 ‹_› ‹_› | exact pt_1 ‹_› ‹_›, Hp.conv ((hH24.perm (((pC ((pC pR).trans pS)).trans pS).trans (pC pR))).sub (sP (sQ (sQ sR)))) (by rfl)⟩

theorem c_spell_reader_rules (W0 : World) (b : Nat) (s : RS) (L : List Ent) (f : Fac) (n : NodeR) (w : World) (hT : Tab W0) (hf : FacV (Kw W0) f) (hn : NodeV (Kw W0) n) (hH : Hp W0 w (.blk b (.cells #[B s.1, I s.2] 57 (0, 0)) :: L)) : Calls Tryd.prog 38 #[.pointer (some ⟨b, 0, none⟩), .agg (facC f), .agg (nodeL n).toArray] w (Ret fun u w' => ∃ (y : BitVec 64) (s' : RS), u = U y ∧ (okR (rulesG f.fc n.nd.kids 0#64) s y s') ∧ Hp W0 w' (.blk b (.cells #[B s'.1, I s'.2] 57 (0, 0)) :: L)) := by
 have hm1 := hn.kids_.small
 unfold maxLen at hm1
 refine enter Tryd.func38 rfl Tryd.ntmps38 rfl ?_
 refine SR ?_
 refine RL.new rfl hH (f := fun b => (.pointer (some ⟨b, 0, none⟩))) (run_box (v := .agg _) rfl) ?_
 intro b3 w1 hH2
 refine RL.new rfl hH2 (f := fun b => (.pointer (some ⟨b, 0, none⟩))) (run_box (v := .agg _) rfl) ?_
 intro b6 w4 hH5
 refine V (aV (U 0#64) rfl) ?_
 refine RL.nil ?_
 refine SR ?_
 refine V (aV (U 0#64) rfl) ?_
 refine RL.nil ?_
 refine CW.seq ?_
 refine SR ?_
 refine V (fA underlying34 4 rfl sizeOf32 rfl) ?_
 refine V (run_ldV (hn.kids_.sl.hp hH5) underlying32 rfl rfl (hH5.cell (i := 0) rfl rfl)) ?_
 refine V (run_lenSl (hn.kids_.sl.hp hH5) rfl underlying32 rfl) ?_
 refine V (mV (I 0) rfl) ?_
 refine RL.nil ?_
 refine CW.block ?_
 refine CW.loop (G := (Int) × (BitVec 64) × (RS)) (fun (⟨k, m, s1⟩ : (Int) × (BitVec 64) × (RS)) s' w' => (Fr [6, 7, 9, 10, 14, 15, 16, 17, 18, 19, 20, 21, 22, 23, 24, 25, 26, 27, 28, 29, 30, 31, 32, 33, 34, 35, 36, 37, 38, 39, 40, 41] _ s') ∧ (Hp W0 w' (_ :: _ :: .blk b (.cells (#[B s1.1, I s1.2]) 57 (0, 0)) :: _)) ∧ (s' 7 = U m) ∧ (s' 14 = I k) ∧ (0 ≤ k) ∧ (k ≤ n.kids.length) ∧ (RInv f.fc n.nd.kids k m s s1)) (fun (⟨k, m, s1⟩ : (Int) × (BitVec 64) × (RS)) => (n.kids.length - k).toNat) ((0, 0#64, s)) ⟨Fr.refl _ _, hH5, rfl, rfl, (by omega), (by omega), ri_0⟩ ?_
 rintro ⟨k, m, s1⟩ sg7 w7 ⟨fr7, hH7, e7_7, e14_7, h0, hk, hm⟩
 have e0_7 : sg7 0 = Pn _ _ := (fr7 0 rfl).trans rfl
 have e4_7 : sg7 4 = Pn _ _ := (fr7 4 rfl).trans rfl
 have e12_7 := (fr7 12 rfl).trans (by conv => lhs; whnf)
 have e13_7 : sg7 13 = I _ := (fr7 13 rfl).trans rfl
 refine SR ?_
 refine V (run_lss e14_7 e13_7) ?_
 refine RL.nil ?_
 refine CW.seq ?_
 refine CW.condP rfl (fun h9 => ?_) (fun h9 => ?_)
 ·refine CW.skip ?_
  refine CW.seq ?_
  refine CW.block ?_
  refine SR ?_
  refine V (run_indexAddrS (hn.kids_.sl.hp hH7) underlying32 sizeOf34 e12_7 e14_7 (by omega)) ?_
  refine V (run_ldE (dv := node0) nodeL_len (hn.kids_.sl.hp hH7) underlying34 rfl rfl rfl (by omega)) ?_
  refine RL.new rfl hH7 (f := fun b => (.pointer (some ⟨b, 0, none⟩))) (run_alloc Tryd.zeroValue34) ?_
  intro b12 w10 hH11
  refine RL.set hH11 (i := 0) rfl (run_stW (c' := (nodeL _).toArray) rfl rfl rfl (nodeL_one (hn.at (by omega) (by omega))) (hH11.blk (i := 0) rfl) rfl) ?_
  intro w13 hH14
  simp only [z0, z1] at hH14
  refine RL.nil ?_
  refine SR ?_
  refine V (fA underlying48 1 rfl sizeOf43 e4_7) ?_
  refine V (run_ld underlying43 rfl rfl (hH14.cell (i := 2) rfl rfl)) ?_
  refine V (fA underlying34 2 rfl sizeOf9 rfl) ?_
  refine V (run_ld underlying9 rfl rfl (hH14.cell (i := 0) rfl (v := .string _) rfl)) ?_
  refine RL.callP rfl hH14 (c_name_Find _ _ _  _ (hf.names.sl.hp hH14)) (run_call2 call58 rfl rfl) ?_
  intro w15 hH16
  refine V (aV (I _) rfl) ?_
  refine RL.nil ?_
  refine CW.seq ?_
  refine SR ?_
  refine V (mV (I _) rfl) ?_
  refine V (run_lss rfl rfl) ?_
  refine RL.nil ?_
  refine CW.condP rfl (fun h18 => ?_) (fun h18 => ?_)
  ·refine SR ?_
   refine V (run_move e0_7) ?_
   refine V (fA underlying34 1 rfl sizeOf3 rfl) ?_
   refine V (run_ld underlying3 rfl rfl (hH16.cell (i := 0) rfl (v := I _) rfl)) ?_
   refine RL.callT rfl (c_spell_reader_fail _ _ _ _ _ _ (hH16.perm (((pC ((pC ((pC pR).trans pS)).trans pS)).trans pS).trans (pC pR)))) (run_call2 call36 rfl rfl) ?_
   rintro _ w24 ⟨_, _, rfl, ⟨rfl, rfl⟩, h25⟩
   have hH26 := h25.perm (((pC pR).trans pS).trans (pC (((pC pR).trans pS).trans (pC (((pC pR).trans pS).trans (pC pR))))))
   refine V (aV (U _) rfl) ?_
   refine RL.nil ?_
   refine CW.ret ?_
   exact out1 Tryd.results38 rfl ⟨_, (failF s1 (n.kids.getD k.toNat node0).place), rfl, by first | exact ri_no h0 ‹k < _› hm ‹_› | exact ri_end ‹_› hm, Hp.conv ((hH26.perm (((pC ((pC ((pC pR).trans pS)).trans pS)).trans pS).trans (pC pR))).sub (sP (sQ (sQ (sQ sR))))) (by rfl)⟩
  ·refine CW.skip ?_
   refine CW.regionS (by kernel_rfl) hH16 (sP (sP (sP (sQ sR)))) ?_
   intro w27 hH28
   refine AT 0 rfl (hH28.sub (sP (sP (sP (sQ sR))))) (fun w hS => run_move e7_7) ?_
   refine AT 1 rfl (hH28.sub (sP (sP (sP (sQ sR))))) (fun w hS => fA underlying48 2 rfl sizeOf46 e4_7) ?_
   refine AT 2 rfl (hH28.sub (sP (sP (sP (sQ sR))))) (fun w hS => run_ldBR underlying46 rfl rfl rfl (hS.blk (i := 2) rfl)) ?_
   refine AT 3 rfl (hH28.sub (sP (sP (sP (sQ sR))))) (fun w hS => mV (I _) rfl) ?_
   refine AT 4 rfl (hH28.sub (sP (sP (sP (sQ sR))))) (fun w hS => run_move e0_7) ?_
   refine AT 5 rfl (hH28.sub (sP (sP (sP (sQ sR))))) (fun w hS => fA underlying48 1 rfl sizeOf43 e4_7) ?_
   refine AT 6 rfl (hH28.sub (sP (sP (sP (sQ sR))))) (fun w hS => run_ld underlying43 rfl rfl (hS.cell (i := 2) rfl rfl)) ?_
   refine AT 7 rfl (hH28.sub (sP (sP (sP (sQ sR))))) (fun w hS => fA underlying34 3 rfl sizeOf31 rfl) ?_
   refine AT 8 rfl (hH28.sub (sP (sP (sP (sQ sR))))) (fun w hS => run_ldV ((hn.at (by omega) (by omega)).names_.sl.hp hS) underlying31 rfl rfl (hS.cell (i := 0) rfl rfl)) ?_
   refine A1 9 ?_
   refine AO.callT rfl gnone rfl (c_spell_reader_places _ _ _ _ _ _ _ _ _ hf.names.sl (hn.at h0 ‹k < _›).names_.sl (hH28.perm (((pC ((pC ((pC pR).trans pS)).trans pS)).trans pS).trans (pC pR)))) (run_call3 call37 rfl rfl rfl) (fun u w' ⟨_, _, _, _, h⟩ => (h.sub (sQ sR))) ?_
   rintro _ w34 ⟨y31, s32, rfl, e33, h35⟩
   have hH36 := h35.perm (((pC pR).trans pS).trans (pC (((pC pR).trans pS).trans (pC (((pC pR).trans pS).trans (pC pR))))))
   refine A1 10 ?_
   refine AO.callP rfl gnone rfl hH36 (sP (sP (sP (sQ sR)))) (c_grid_Rule _ _ _  _ (hT.hp hH36)) (run_call3 call59 rfl rfl rfl) ?_
   intro w37 hH38
   refine AT 11 rfl (hH38.sub (sP (sP (sP (sQ sR))))) (fun w hS => run_orU rfl rfl) ?_
   refine AT 12 rfl (hH38.sub (sP (sP (sP (sQ sR))))) (fun w hS => aV (U _) rfl) ?_
   refine AD ?_
   refine CW.region ?_
   refine V (run_add e14_7 rfl (by omega)) ?_
   refine V (mV (I _) rfl) ?_
   refine RL.nil ?_
   refine ⟨(k + 1, _, _), ?_, fr7.u4.u4.u4.u4.u4.u4.u1.u1.u1, (hH38.sub (sQ sR)), rfl, (congrArg I (by first | rfl | omega)), ?_, ?_, ?_⟩
   ·((try dsimp only); omega)
   ·omega
   ·omega
   ·exact ri_next h0 ‹k < _› hm ‹_› ‹_›
 ·refine CW.exit (id := 0) rfl ?_
  refine SR ?_
  refine V (run_move e7_7) ?_
  refine V (aV (U _) rfl) ?_
  refine RL.nil ?_
  refine CW.ret ?_
  exact out1 Tryd.results38 rfl ⟨_, s1, rfl, by first | exact ri_no h0 ‹k < _› hm ‹_› | exact ri_end ‹_› hm, Hp.conv ((hH7.perm (((pC ((pC pR).trans pS)).trans pS).trans (pC pR))).sub (sP (sQ (sQ sR)))) (by rfl)⟩

theorem c_spell_kind (f : Fac) (w : World) : Calls Tryd.prog 31 #[.agg (facC f)] w (Pure (I (kindN f.fc)) w) := by
 refine enter Tryd.func31 rfl Tryd.ntmps31 rfl ?_
 have hH := Hp.start w
 refine SR ?_
 refine RL.new rfl hH (f := fun b => (.pointer (some ⟨b, 0, none⟩))) (run_box (v := .agg _) rfl) ?_
 intro b3 w1 hH2
 refine V (aV (I 0) rfl) ?_
 refine RL.nil ?_
 refine CW.seq ?_
 refine SR ?_
 refine V (fA underlying48 0 rfl sizeOf3 rfl) ?_
 refine V (run_ld underlying3 rfl rfl (hH2.cell (i := 0) rfl (v := I _) rfl)) ?_
 refine RL.nil ?_
 refine CW.block ?_
 refine SR ?_
 refine V (run_eql rfl rfl) ?_
 refine V (aV (B _) rfl) ?_
 refine RL.nil ?_
 refine CW.condP rfl (fun h5 => ?_) (fun h5 => ?_)
 ·refine SR ?_
  refine V (aV (I 3) rfl) ?_
  refine RL.nil ?_
  refine CW.ret ?_
  refine outP1 Tryd.results31 (congrArg I ?_) hH2.below
  (simp [kindN, Fac.fc, *])
 ·refine SR ?_
  refine V (run_eql rfl rfl) ?_
  refine V (aV (B _) rfl) ?_
  refine RL.nil ?_
  refine CW.condP rfl (fun h7 => ?_) (fun h7 => ?_)
  ·refine SR ?_
   refine V (aV (I 5) rfl) ?_
   refine RL.nil ?_
   refine CW.ret ?_
   refine outP1 Tryd.results31 (congrArg I ?_) hH2.below
   (simp [kindN, Fac.fc, *])
  ·refine CW.skip ?_
   refine SR ?_
   refine V (aV (I 2) rfl) ?_
   refine RL.nil ?_
   refine CW.ret ?_
   refine outP1 Tryd.results31 (congrArg I ?_) hH2.below
   (simp [kindN, Fac.fc, *])

theorem c_spell_reader_word (W0 : World) (b : Nat) (s : RS) (L : List Ent) (f : Fac) (n : NodeR) (w : World) (hT : Tab W0) (hf : FacV (Kw W0) f) (hn : NodeV (Kw W0) n) (hH : Hp W0 w (.blk b (.cells #[B s.1, I s.2] 57 (0, 0)) :: L)) : Calls Tryd.prog 15 #[.pointer (some ⟨b, 0, none⟩), .agg (facC f), .agg (nodeL n).toArray] w (Ret fun u w' => ∃ (y : BitVec 64) (s' : RS), u = U y ∧ (okR (wordG f.fc n.nd) s y s') ∧ Hp W0 w' (.blk b (.cells #[B s'.1, I s'.2] 57 (0, 0)) :: L)) := by
 refine enter Tryd.func15 rfl Tryd.ntmps15 rfl ?_
 refine SR ?_
 refine RL.new rfl hH (f := fun b => (.pointer (some ⟨b, 0, none⟩))) (run_box (v := .agg _) rfl) ?_
 intro b3 w1 hH2
 refine RL.new rfl hH2 (f := fun b => (.pointer (some ⟨b, 0, none⟩))) (run_box (v := .agg _) rfl) ?_
 intro b6 w4 hH5
 refine V (aV (U 0#64) rfl) ?_
 refine RL.nil ?_
 refine CW.seq ?_
 refine CW.seq ?_
 refine CW.regionD (by kernel_rfl) hH5 ?_
 intro w7 hH8
 refine AT 0 rfl (hH8.sub sR) (fun w hS => fA underlying34 0 rfl sizeOf3 rfl) ?_
 refine AT 1 rfl (hH8.sub sR) (fun w hS => run_ld underlying3 rfl rfl (hS.cell (i := 0) rfl (v := I _) rfl)) ?_
 refine AT 2 rfl (hH8.sub sR) (fun w hS => run_ldFac underlying48 rfl rfl rfl (hS.blk (i := 1) rfl)) ?_
 refine A1 3 ?_
 refine AO.callP rfl gnone rfl hH8 sR (c_spell_kind _  _) (run_call1 call31 rfl) ?_
 intro w9 hH10
 refine AT 4 rfl (hH10.sub sR) (fun w hS => run_neq rfl rfl) ?_
 refine AD ?_
 refine CW.condP rfl (fun h12 => ?_) (fun h12 => ?_)
 ·refine SR ?_
  refine V (mV (Pn _ _) rfl) ?_
  refine V (fA underlying34 1 rfl sizeOf3 rfl) ?_
  refine V (run_ld underlying3 rfl rfl (hH10.cell (i := 0) rfl (v := I _) rfl)) ?_
  refine RL.callT rfl (c_spell_reader_fail _ _ _ _ _ _ (hH10.perm (((pC ((pC pR).trans pS)).trans pS).trans (pC pR)))) (run_call2 call36 rfl rfl) ?_
  rintro _ w18 ⟨_, _, rfl, ⟨rfl, rfl⟩, h19⟩
  have hH20 := h19.perm (((pC pR).trans pS).trans (pC (((pC pR).trans pS).trans (pC pR))))
  refine V (aV (U _) rfl) ?_
  refine RL.nil ?_
  refine CW.ret ?_
  exact out1 Tryd.results15 rfl ⟨_, (failF s n.place), rfl, by first | exact wd_no ‹_› | exact wd_2 ‹_› ‹_› ‹_› | exact wd_3 ‹_› ‹_› ‹_› ‹_› | exact wd_1 ‹_› ‹_› ‹_› ‹_›, Hp.conv ((hH20.perm (((pC ((pC pR).trans pS)).trans pS).trans (pC pR))).sub (sP (sQ (sQ sR)))) (by rfl)⟩
 ·refine CW.skip ?_
  refine CW.seq ?_
  refine SR ?_
  refine V (fA underlying48 0 rfl sizeOf3 rfl) ?_
  refine V (run_ld underlying3 rfl rfl (hH10.cell (i := 1) rfl (v := I _) rfl)) ?_
  refine RL.nil ?_
  refine CW.block ?_
  refine SR ?_
  refine V (run_eql rfl rfl) ?_
  refine V (aV (B _) rfl) ?_
  refine RL.nil ?_
  refine CW.condP rfl (fun h22 => ?_) (fun h22 => ?_)
  ·refine SR ?_
   refine V (mV (Pn _ _) rfl) ?_
   refine V (fA underlying48 1 rfl sizeOf43 rfl) ?_
   refine V (run_ld underlying43 rfl rfl (hH10.cell (i := 1) rfl rfl)) ?_
   refine V (fA underlying34 3 rfl sizeOf31 rfl) ?_
   refine V (run_ldV (hn.names_.sl.hp hH10) underlying31 rfl rfl (hH10.cell (i := 0) rfl rfl)) ?_
   refine RL.callT rfl (c_spell_reader_places _ _ _ _ _ _ _ _ _ hf.names.sl hn.names_.sl (hH10.perm (((pC ((pC pR).trans pS)).trans pS).trans (pC pR)))) (run_call3 call37 rfl rfl rfl) ?_
   rintro _ w28 ⟨y25, s26, rfl, e27, h29⟩
   have hH30 := h29.perm (((pC pR).trans pS).trans (pC (((pC pR).trans pS).trans (pC pR))))
   refine V (aV (U _) rfl) ?_
   refine RL.nil ?_
   refine CW.ret ?_
   exact out1 Tryd.results15 rfl ⟨_, s26, rfl, by first | exact wd_no ‹_› | exact wd_2 ‹_› ‹_› ‹_› | exact wd_3 ‹_› ‹_› ‹_› ‹_› | exact wd_1 ‹_› ‹_› ‹_› ‹_›, Hp.conv ((hH30.perm (((pC ((pC pR).trans pS)).trans pS).trans (pC pR))).sub (sP (sQ (sQ sR)))) (by rfl)⟩
  ·refine SR ?_
   refine V (run_eql rfl rfl) ?_
   refine V (aV (B _) rfl) ?_
   refine RL.nil ?_
   refine CW.condP rfl (fun h32 => ?_) (fun h32 => ?_)
   ·refine SR ?_
    refine V (mV (Pn _ _) rfl) ?_
    refine V (run_ldFac underlying48 rfl rfl rfl (hH10.blk (i := 1) rfl)) ?_
    refine V (run_ldA (cs := nodeL _) underlying34 rfl rfl rfl (rangeAt_cells (hH10.blk (i := 0) rfl))) ?_
    refine RL.callT rfl (c_spell_reader_rules _ _ _ _ _ _ _ hT hf hn (hH10.perm (((pC ((pC pR).trans pS)).trans pS).trans (pC pR)))) (run_call3 call38 rfl rfl rfl) ?_
    rintro _ w38 ⟨y35, s36, rfl, e37, h39⟩
    have hH40 := h39.perm (((pC pR).trans pS).trans (pC (((pC pR).trans pS).trans (pC pR))))
    refine V (aV (U _) rfl) ?_
    refine RL.nil ?_
    refine CW.ret ?_
    exact out1 Tryd.results15 rfl ⟨_, s36, rfl, by first | exact wd_no ‹_› | exact wd_2 ‹_› ‹_› ‹_› | exact wd_3 ‹_› ‹_› ‹_› ‹_› | exact wd_1 ‹_› ‹_› ‹_› ‹_›, Hp.conv ((hH40.perm (((pC ((pC pR).trans pS)).trans pS).trans (pC pR))).sub (sP (sQ (sQ sR)))) (by rfl)⟩
   ·refine CW.skip ?_
    refine SR ?_
    refine V (mV (Pn _ _) rfl) ?_
    refine V (run_ldFac underlying48 rfl rfl rfl (hH10.blk (i := 1) rfl)) ?_
    refine V (run_ldA (cs := nodeL _) underlying34 rfl rfl rfl (rangeAt_cells (hH10.blk (i := 0) rfl))) ?_
    refine RL.callT rfl (c_spell_reader_point _ _ _ _ _ _ _ hT hf hn (hH10.perm (((pC ((pC pR).trans pS)).trans pS).trans (pC pR)))) (run_call3 call39 rfl rfl rfl) ?_
    rintro _ w46 ⟨y43, s44, rfl, e45, h47⟩
    have hH48 := h47.perm (((pC pR).trans pS).trans (pC (((pC pR).trans pS).trans (pC pR))))
    refine V (aV (U _) rfl) ?_
    refine RL.nil ?_
    refine CW.ret ?_
    exact out1 Tryd.results15 rfl ⟨_, s44, rfl, by first | exact wd_no ‹_› | exact wd_2 ‹_› ‹_› ‹_› | exact wd_3 ‹_› ‹_› ‹_› ‹_› | exact wd_1 ‹_› ‹_› ‹_› ‹_›, Hp.conv ((hH48.perm (((pC ((pC pR).trans pS)).trans pS).trans (pC pR))).sub (sP (sQ (sQ sR)))) (by rfl)⟩

theorem c_spell_parts (K : Vu) (s : Shp) (n : NodeR) (w : World) (hK : Le K (Kw w)) (hs : ShpV K s) (hn : NodeV K n) : Calls Tryd.prog 14 #[.agg (shpC s), .agg (nodeL n).toArray] w (PureF K (fun K' u => ∃ v, u = .tuple #[v, B (partB s n)] ∧ SlV K' v 5 (partsR s n).length ((partsR s n).flatMap nodeL)) w) := by
 have hm1 := hn.kids_.small
 have hm2 := hs.facs.small
 unfold maxLen at hm1 hm2
 refine enter Tryd.func14 rfl Tryd.ntmps14 rfl ?_
 have hH := Hp.start w
 refine SR ?_
 refine RL.new rfl hH (f := fun b => (.pointer (some ⟨b, 0, none⟩))) (run_box (v := .agg _) rfl) ?_
 intro b3 w1 hH2
 refine RL.new rfl hH2 (f := fun b => (.pointer (some ⟨b, 0, none⟩))) (run_box (v := .agg _) rfl) ?_
 intro b6 w4 hH5
 refine V (aV (.slice none 0 0) rfl) ?_
 refine V (aV (B false) rfl) ?_
 refine RL.nil ?_
 refine CW.seq ?_
 refine SR ?_
 refine V (fA underlying24 0 rfl sizeOf4 rfl) ?_
 refine V (run_ld underlying4 rfl rfl (hH5.cell (i := 1) rfl (v := B _) rfl)) ?_
 refine V (run_not rfl) ?_
 refine RL.nil ?_
 refine CW.cond rfl (fun h9 => ?_) (fun h9 => ?_)
 ·refine SR ?_
  refine V (run_ldA (cs := nodeL _) underlying34 rfl rfl rfl (rangeAt_cells (hH5.blk (i := 0) rfl))) ?_
  refine RL.new rfl hH5 (f := fun b => (.slice (some ⟨b, 0, none⟩) 1 1)) (run_mkRecs nodeL_len underlying32 rfl rfl rfl (l := [n]) rfl (by decide) (by decide) rfl) ?_
  intro b12 w10 hH11
  refine V (run_assign (by conv => lhs; whnf)) ?_
  refine V (aV (B true) rfl) ?_
  refine RL.nil ?_
  refine CW.ret ?_
  have hH13 : Hp _ w10 (_ :: _ :: [Ent.blk b12 (.cells ([n].flatMap nodeL).toArray 34 (0, 0))]) := Hp.zin0 (Z := [Ent.blk b12 (.cells ([n].flatMap nodeL).toArray 34 (0, 0))]) (L := [_, _]) hH11
  refine out2 Tryd.results14 (x := .slice (some ⟨b12, 0, none⟩) 1 1) (y := B true) rfl rfl ⟨[Ent.blk b12 (.cells ([n].flatMap nodeL).toArray 34 (0, 0))], (hH13.sub (sQ (sQ sR))), .slice (some ⟨b12, 0, none⟩) 1 1, ?_, ?_⟩
  ·simp [partB, *]
  ·rw [← partsR_1 (nt ‹(!s.tuple) = true›)]; exact slv_blk (c := [n].flatMap nodeL) (List.mem_cons_self ..) (flat_length nodeL_len _) (by simp [maxLen])
 ·refine CW.skip ?_
  refine CW.seq ?_
  refine CW.regionD (by kernel_rfl) hH5 ?_
  intro w14 hH15
  refine AT 0 rfl (hH15.sub sR) (fun w hS => fA underlying34 4 rfl sizeOf32 rfl) ?_
  refine AT 1 rfl (hH15.sub sR) (fun w hS => run_ldV ((NodeV.mono hK hn).kids_.sl.hp hS) underlying32 rfl rfl (hS.cell (i := 0) rfl rfl)) ?_
  refine AT 2 rfl (hH15.sub sR) (fun w hS => fA underlying34 0 rfl sizeOf3 rfl) ?_
  refine AT 3 rfl (hH15.sub sR) (fun w hS => run_ld underlying3 rfl rfl (hS.cell (i := 0) rfl (v := I _) rfl)) ?_
  refine AT 4 rfl (hH15.sub sR) (fun w hS => run_eql rfl rfl) ?_
  refine AT 5 rfl (hH15.sub sR) (fun w hS => mV (B _) rfl) ?_
  refine AN.splitP (dj := 16) rfl (fun h17 => ?_) (fun h17 => ?_)
  ·refine AG 6 rfl rfl (bT h17) (hH15.sub sR) (fun w hS => fA underlying34 4 rfl sizeOf32 rfl) ?_
   refine AG 7 rfl rfl (bT h17) (hH15.sub sR) (fun w hS => run_ldV ((NodeV.mono hK hn).kids_.sl.hp hS) underlying32 rfl rfl (hS.cell (i := 0) rfl rfl)) ?_
   refine AG 8 rfl rfl (bT h17) (hH15.sub sR) (fun w hS => run_lenSl ((NodeV.mono hK hn).kids_.sl.hp hS) rfl underlying32 rfl) ?_
   refine AG 9 rfl rfl (bT h17) (hH15.sub sR) (fun w hS => fA underlying24 1 rfl sizeOf22 rfl) ?_
   refine AG 10 rfl rfl (bT h17) (hH15.sub sR) (fun w hS => run_ld underlying22 rfl rfl (hS.cell (i := 1) rfl rfl)) ?_
   refine AG 11 rfl rfl (bT h17) (hH15.sub sR) (fun w hS => run_lenSl ((hs.mono hK).facs.sl.hp hS) rfl underlying22 rfl) ?_
   refine AG 12 rfl rfl (bT h17) (hH15.sub sR) (fun w hS => run_eql rfl rfl) ?_
   refine AT 13 rfl (hH15.sub sR) (fun w hS => run_pickT (bT h17) (v := B _) rfl) ?_
   refine AT 14 rfl (hH15.sub sR) (fun w hS => run_assign (by conv => lhs; whnf)) ?_
   refine AT 15 rfl (hH15.sub sR) (fun w hS => aV (B _) rfl) ?_
   refine AD ?_
   refine CW.ret ?_
   refine out2 Tryd.results14 (x := n.kv) (y := B _) rfl rfl ⟨[], (hH15.sub (sQ (sQ sR))), n.kv, ?_, ?_⟩
   ·(simp [partB, *]; try omega)
   ·rw [← partsR_2 (nf ‹(!s.tuple) = false›)]; exact hn.kids_.mono (Le.z _ _)
  ·refine AK 6 rfl rfl (bF h17) (hH15.sub sR) ?_
   refine AK 7 rfl rfl (bF h17) (hH15.sub sR) ?_
   refine AK 8 rfl rfl (bF h17) (hH15.sub sR) ?_
   refine AK 9 rfl rfl (bF h17) (hH15.sub sR) ?_
   refine AK 10 rfl rfl (bF h17) (hH15.sub sR) ?_
   refine AK 11 rfl rfl (bF h17) (hH15.sub sR) ?_
   refine AK 12 rfl rfl (bF h17) (hH15.sub sR) ?_
   refine AT 13 rfl (hH15.sub sR) (fun w hS => run_pickF (bF h17) (v := B false) rfl) ?_
   refine AT 14 rfl (hH15.sub sR) (fun w hS => run_assign (by conv => lhs; whnf)) ?_
   refine AT 15 rfl (hH15.sub sR) (fun w hS => aV (B _) rfl) ?_
   refine AD ?_
   refine CW.ret ?_
   refine out2 Tryd.results14 (x := n.kv) (y := B _) rfl rfl ⟨[], (hH15.sub (sQ (sQ sR))), n.kv, ?_, ?_⟩
   ·(simp [partB, *]; try omega)
   ·rw [← partsR_2 (nf ‹(!s.tuple) = false›)]; exact hn.kids_.mono (Le.z _ _)

end Go.Proofs.YtningfhcklabmaaDoor.W
