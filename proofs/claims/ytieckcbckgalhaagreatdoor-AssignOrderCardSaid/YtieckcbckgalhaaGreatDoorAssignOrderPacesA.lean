/-
  The walks of the functions that the laws of this seat reach, part 1: each returns what its plain counterpart tells, and turns nothing that was there.
-/
import Derived.Test.YtieckcbckgalhaaGreatDoorProg
import Derived.Test.YtieckcbckgalhaaGreatDoorEnv
import Derived.Test.YtieckcbckgalhaaGreatDoorPlain
import Derived.Test.YtieckcbckgalhaaGreatDoorBase
import Derived.Test.YtieckcbckgalhaaGreatDoorOrd
import Derived.Test.YtieckcbckgalhaaGreatDoorRel
import Derived.Test.YtieckcbckgalhaaGreatDoorClo
import Derived.Test.YtieckcbckgalhaaGreatDoorCov
import Derived.Test.YtieckcbckgalhaaGreatDoorArr
import Derived.Test.YtieckcbckgalhaaGreatDoorHas
import Derived.Test.YtieckcbckgalhaaGreatDoorGrd
import Derived.Test.YtieckcbckgalhaaGreatDoorStr
import Derived.Test.YtieckcbckgalhaaGreatDoorVu
import Derived.Test.YtieckcbckgalhaaGreatDoorShp
import Derived.Test.YtieckcbckgalhaaGreatDoorShl
import Derived.Test.YtieckcbckgalhaaGreatDoorShq
import Derived.Test.YtieckcbckgalhaaGreatDoorShr
import Derived.Test.YtieckcbckgalhaaGreatDoorCut
import Derived.Test.YtieckcbckgalhaaGreatDoorRec
import Derived.Test.YtieckcbckgalhaaGreatDoorOut
import Derived.Test.YtieckcbckgalhaaGreatDoorScp
import Derived.Test.YtieckcbckgalhaaGreatDoorScq
import Derived.Test.YtieckcbckgalhaaGreatDoorByt
import Derived.Test.YtieckcbckgalhaaGreatDoorNod
import Derived.Test.YtieckcbckgalhaaGreatDoorSpl
import Derived.Test.YtieckcbckgalhaaGreatDoorSpb
import Derived.Test.YtieckcbckgalhaaGreatDoorSpt
import Derived.Test.YtieckcbckgalhaaGreatDoorSpn
import Derived.Test.YtieckcbckgalhaaGreatDoorSpx
import Derived.Test.YtieckcbckgalhaaGreatDoorSpy
import Derived.Test.YtieckcbckgalhaaGreatDoorMk
import Derived.Test.YtieckcbckgalhaaGreatDoorAsn
import Derived.Test.YtieckcbckgalhaaGreatDoorAsp
import Derived.Test.YtieckcbckgalhaaGreatDoorAsr
import Derived.Test.YtieckcbckgalhaaGreatDoorAst
import Derived.Test.YtieckcbckgalhaaGreatDoorMin
namespace Go.Proofs.YtieckcbckgalhaaGreatDoor.W
open Go Go.RowKit Go.Proofs.YtieckcbckgalhaaGreatDoor.E Go.Proofs.YtieckcbckgalhaaGreatDoor.M
set_option linter.unusedVariables false
set_option linter.unusedSimpArgs false
set_option maxRecDepth 100000
open Tryz

theorem zero_rel : ∀ w, (zeroValue 57).run Tryz.prog w = .ok (.agg (relC Rl.none)) w := fun w => by
  rw [relC_def]; exact Tryz.zeroValue57 w
theorem built_rel (a : Int) : Tryz.prog.built 57 [(0, I a)] = some (relC ⟨a, fun _ => 0#64⟩) := by
  rw [relC_def]; rfl
theorem relT_fields : Tryz.prog.fieldsOf 57 = #[{ name := "N", type := 3, offset := 0, embedded := false, tag := "", pkgPath := "", byteOffset := 0 }, { name := "Up", type := 55, offset := 1, embedded := false, tag := "", pkgPath := "", byteOffset := 8 }] := by
  unfold Program.fieldsOf; rw [Tryz.underlying57]
theorem relT_fact : RelT Tryz.prog 57 { name := "N", type := 3, offset := 0, embedded := false, tag := "", pkgPath := "", byteOffset := 0 } { name := "Up", type := 55, offset := 1, embedded := false, tag := "", pkgPath := "", byteOffset := 8 } 49 :=
  ⟨by rw [relT_fields]; exact Tryz.underlying57, relT_fields, by decide, by decide, rfl, rfl, Tryz.underlying3, Tryz.isAgg3, Tryz.underlying55, Tryz.isAgg55, Tryz.sizeOf55, Tryz.underlying49, Tryz.sizeOf49, Tryz.isAgg49, by kernel_rfl, by kernel_rfl⟩
theorem elT_fact : ElT Tryz.prog 51 49 := ⟨Tryz.underlying51, Tryz.underlying49, Tryz.sizeOf49, Tryz.isAgg49, by kernel_rfl⟩
theorem zero_el : ∀ w, (zeroValue 51).run Tryz.prog w = .ok (.agg (elC el0)) w := fun w => by
  rw [elC_zero]; exact Tryz.zeroValue51 w
theorem zero_fac : ∀ w, (zeroValue 59).run Tryz.prog w = .ok (.agg (facC fac0)) w := fun w => Tryz.zeroValue59 w
theorem built_rel0 : Tryz.prog.built 57 [] = some (relC Rl.none) := by
  rw [relC_def]; rfl
theorem built_shpT {v : Value} (h : v.cells = #[v]) : Tryz.prog.built 42 [(0, B true), (1, v)] = some #[B true, v] :=
  (show Tryz.prog.built 42 [(0, B true), (1, v)] = Instr.fill (#[(0, 1), (1, 1)][·]?) #[B false, .slice none 0 0] [(0, B true), (1, v)] from rfl).trans (by simp only [Instr.fill, h]; rfl)
theorem built_shp1 {v : Value} (h : v.cells = #[v]) : Tryz.prog.built 42 [(1, v)] = some #[B false, v] :=
  (show Tryz.prog.built 42 [(1, v)] = Instr.fill (#[(0, 1), (1, 1)][·]?) #[B false, .slice none 0 0] [(1, v)] from rfl).trans (by simp only [Instr.fill, h]; rfl)
theorem built_shp0 : Tryz.prog.built 42 [(0, B true)] = some #[B true, .slice none 0 0] := rfl
theorem built_fac (k : Int) (b n : Nat) (l : List Tx) : Tryz.prog.built 59 [(0, I k), (1, .slice (some ⟨b, 0, none⟩) n n)] = some (facC ⟨k, .slice (some ⟨b, 0, none⟩) n n, l, Rl.none⟩) := rfl
theorem built_el2 (a b : BitVec 64) : Tryz.prog.built 51 [(0, U a), (1, U b)] = some (elC (putE (putE el0 0 a) 1 b)) := by
  rw [elC_def]; rfl
theorem built_el1 (a : BitVec 64) : Tryz.prog.built 51 [(0, U a)] = some (elC (putE el0 0 a)) := by
  rw [elC_def]; rfl
theorem built_wdL (a : Tx) (b : Int) : Tryz.prog.built 128 [(0, S a), (1, I b)] = some (wdL ⟨a, b⟩).toArray := rfl
theorem built_wdLs (a : Tx) : Tryz.prog.built 128 [(0, S a)] = some (wdL ⟨a, 0⟩).toArray := rfl
theorem built_el0 : Tryz.prog.built 51 [] = some (elC el0) := by
  rw [elC_def]; rfl
theorem built_node0 : Tryz.prog.built 96 [] = some (nodeL node0).toArray := rfl
theorem eq_wd (a b : Wd) : EqT Tryz.prog 128 (wdL a).toArray (wdL b).toArray (decide (a = b)) :=
  (eqT Tryz.underlying128 (by kernel_rfl) (by kernel_rfl) (.cons (fldS (a := a.text) (b := b.text) (by decide) Tryz.underlying9 Tryz.isAgg9 rfl rfl) (.cons (fldI (k := .i64) (a := a.place) (b := b.place) (by decide) Tryz.underlying3 Tryz.isAgg3 rfl rfl) .nil))).conv (by
    obtain ⟨a1, a2⟩ := a; obtain ⟨b1, b2⟩ := b
    rw [Bool.eq_iff_iff]; simp)
theorem built_up2 : Tryz.prog.built 55 [(0, U 3#64), (1, U 2#64)] = some ((relL twoR).drop 1).toArray := by kernel_rfl
theorem built_relA : Tryz.prog.built 57 [(0, I 2), (1, .agg ((relL twoR).drop 1).toArray)] = some (relC twoR) := by
  rw [relC_def]; kernel_rfl
theorem built_facR (k : Int) (b n : Nat) (l : List Tx) : Tryz.prog.built 59 [(0, I k), (1, .slice (some ⟨b, 0, none⟩) n n), (2, .agg (relC twoR))] = some (facC ⟨k, .slice (some ⟨b, 0, none⟩) n n, l, twoR⟩) := by
  rw [relC_def]; kernel_rfl
theorem built_nodeKd (k : Int) (b n : Nat) (l : List NodeR) : Tryz.prog.built 96 [(0, I k), (4, .slice (some ⟨b, 0, none⟩) n n)] = some (nodeL (kidsR k (.slice (some ⟨b, 0, none⟩) n n) l)).toArray := rfl
theorem built_nodeK (k : Int) : Tryz.prog.built 96 [(0, I k)] = some (nodeL (kindR k tx0 (.slice none 0 0) [])).toArray := rfl
theorem built_nodeT (k : Int) (t : Tx) : Tryz.prog.built 96 [(0, I k), (2, S t)] = some (nodeL (kindR k t (.slice none 0 0) [])).toArray := rfl
theorem built_nodeN {v : Value} (h : v.cells = #[v]) (k : Int) (l : List Wd) : Tryz.prog.built 96 [(0, I k), (3, v)] = some (nodeL (kindR k tx0 v l)).toArray :=
  (show Tryz.prog.built 96 [(0, I k), (3, v)] = Instr.fill (#[(0, 1), (1, 1), (2, 1), (3, 1), (4, 1)][·]?) (nodeL node0).toArray [(0, I k), (3, v)] from rfl).trans (by simp only [Instr.fill, h]; rfl)
theorem built_nodeTN {v : Value} (h : v.cells = #[v]) (k : Int) (t : Tx) (l : List Wd) : Tryz.prog.built 96 [(0, I k), (2, S t), (3, v)] = some (nodeL (kindR k t v l)).toArray :=
  (show Tryz.prog.built 96 [(0, I k), (2, S t), (3, v)] = Instr.fill (#[(0, 1), (1, 1), (2, 1), (3, 1), (4, 1)][·]?) (nodeL node0).toArray [(0, I k), (2, S t), (3, v)] from rfl).trans (by simp only [Instr.fill, h]; rfl)
theorem built_varL (a : Tx) (b c : Int) : Tryz.prog.built 47 [(0, S a), (1, I b), (2, I c)] = some (varL ⟨a, b, c⟩).toArray := rfl
theorem built_varL_0_1 (a : Tx) (b : Int) : Tryz.prog.built 47 [(0, S a), (1, I b)] = some (varL ⟨a, b, 0⟩).toArray := rfl
theorem built_lat (t : Tx) (p : Shp) : Tryz.prog.built 44 [(0, S t), (1, .agg (shpC p))] = some (latL ⟨t, p⟩).toArray := rfl
theorem built_scpV {v u : Value} (h : v.cells = #[v]) (h2 : u.cells = #[u]) : Tryz.prog.built 25 [(0, v), (1, u)] = some #[v, u] :=
  (show Tryz.prog.built 25 [(0, v), (1, u)] = Instr.fill (#[(0, 1), (1, 1)][·]?) #[.slice none 0 0, .slice none 0 0] [(0, v), (1, u)] from rfl).trans (by simp only [Instr.fill, h, h2]; rfl)
theorem built_asgV {v u : Value} (h : v.cells = #[v]) (h2 : u.cells = #[u]) : Tryz.prog.built 29 [(0, v), (1, u)] = some #[v, u] :=
  (show Tryz.prog.built 29 [(0, v), (1, u)] = Instr.fill (#[(0, 1), (1, 1)][·]?) #[.slice none 0 0, .slice none 0 0] [(0, v), (1, u)] from rfl).trans (by simp only [Instr.fill, h, h2]; rfl)
theorem built_asg1 {v : Value} (h : v.cells = #[v]) : Tryz.prog.built 29 [(1, v)] = some #[.slice none 0 0, v] :=
  (show Tryz.prog.built 29 [(1, v)] = Instr.fill (#[(0, 1), (1, 1)][·]?) #[.slice none 0 0, .slice none 0 0] [(1, v)] from rfl).trans (by simp only [Instr.fill, h]; rfl)
theorem built_val (a : Tx) (e : El) : Tryz.prog.built 53 [(0, S a), (1, .agg (elC e))] = some (valL ⟨a, e⟩).toArray := by
  rw [elC_def]; kernel_rfl
theorem eq_val (a b : ValR) : EqT Tryz.prog 53 (valL a).toArray (valL b).toArray (sameV a b) :=
  (eqT Tryz.underlying53 (by kernel_rfl) (by kernel_rfl) (.cons (fldS (a := a.name) (b := b.name) (by decide) Tryz.underlying9 Tryz.isAgg9 rfl rfl) (.cons (fldEl (a := a.el) (b := b.el) (by decide) elT_fact Tryz.isAgg51 Tryz.sizeOf51 (val_ext a) (val_ext b)) .nil))).conv (by simp [sameV])
theorem zero_lat : ∀ w, (zeroValue 44).run Tryz.prog w = .ok (.agg (latL lat0).toArray) w := fun w => Tryz.zeroValue44 w
theorem zero_val : ∀ w, (zeroValue 53).run Tryz.prog w = .ok (.agg (valL val0).toArray) w := fun w => (Tryz.zeroValue53 w).trans (by kernel_rfl)
theorem zero_asg : ∀ w, (zeroValue 29).run Tryz.prog w = .ok (.agg (asgL asg0).toArray) w := fun w => Tryz.zeroValue29 w

theorem c_rung_chain (n : Int) (w : World) : Calls Tryz.prog 135 #[I n] w (Pure (B (chainB n)) w) := by
 refine enter Tryz.func135 rfl Tryz.ntmps135 rfl ?_
 have hH := Hp.start w
 refine SR ?_
 refine V (aV (B false) rfl) ?_
 refine RL.nil ?_
 refine SR ?_
 refine V (mV (I _) rfl) ?_
 refine V (run_geq rfl rfl) ?_
 refine V (mV (B _) rfl) ?_
 refine RL.splitP (dj := 5) rfl (fun h2 => ?_) (fun h2 => ?_)
 ·refine RL.gT rfl (bT h2) ?_
  refine V (mV (I _) rfl) ?_
  refine RL.gT rfl (bT h2) ?_
  refine V (run_leq rfl rfl) ?_
  refine V (run_pickT (bT h2) (v := B _) rfl) ?_
  refine V (aV (B _) rfl) ?_
  refine RL.nil ?_
  refine CW.ret ?_
  refine outP1 Tryz.results135 (congrArg B ?_) hH.below
  (simp [chainB]; omega)
 ·refine RL.gF rfl rfl (bF h2) rfl ?_
  refine RL.gF rfl rfl (bF h2) rfl ?_
  refine V (run_pickF (bF h2) (v := B false) rfl) ?_
  refine V (aV (B _) rfl) ?_
  refine RL.nil ?_
  refine CW.ret ?_
  refine outP1 Tryz.results135 (congrArg B ?_) hH.below
  (simp [chainB]; omega)

theorem c_mask_Below (n : Int) (w : World) : Calls Tryz.prog 76 #[I n] w (Pure (U (below n)) w) := by
 refine enter Tryz.func76 rfl Tryz.ntmps76 rfl ?_
 have hH := Hp.start w
 refine SR ?_
 refine V (aV (U 0#64) rfl) ?_
 refine RL.nil ?_
 refine CW.seq ?_
 refine SR ?_
 refine V (mV (I _) rfl) ?_
 refine V (run_leq rfl rfl) ?_
 refine RL.nil ?_
 refine CW.condP rfl (fun h2 => ?_) (fun h2 => ?_)
 ·refine SR ?_
  refine V (aV (U 0#64) rfl) ?_
  refine RL.nil ?_
  refine CW.ret ?_
  exact outP1 Tryz.results76 (congrArg U (below_nonpos ‹_›).symm) hH.below
 ·refine CW.skip ?_
  refine CW.seq ?_
  refine SR ?_
  refine V (mV (I _) rfl) ?_
  refine V (run_geq rfl rfl) ?_
  refine RL.nil ?_
  refine CW.condP rfl (fun h4 => ?_) (fun h4 => ?_)
  ·refine SR ?_
   refine V (aV (U 18446744073709551615#64) rfl) ?_
   refine RL.nil ?_
   refine CW.ret ?_
   exact outP1 Tryz.results76 (congrArg U (below_all ‹_›).symm) hH.below
  ·refine CW.skip ?_
   refine SR ?_
   refine V (mV (I _) rfl) ?_
   refine V (run_convIU underlying3 underlying120 rfl) ?_
   refine V (run_shlU (a := 1#64) rfl rfl) ?_
   refine V (run_subU rfl (b := 1#64) rfl) ?_
   refine V (aV (U _) rfl) ?_
   refine RL.nil ?_
   refine CW.ret ?_
   exact outP1 Tryz.results76 (congrArg U (below_mid ‹_› ‹_›).symm) hH.below

theorem c_rung_Level (n : Int) (s : BitVec 64) (w : World) : Calls Tryz.prog 104 #[I n, U s] w (Pure (.tuple #[I (level n s).1, B (level n s).2]) w) := by
 refine enter Tryz.func104 rfl Tryz.ntmps104 rfl ?_
 have hH := Hp.start w
 refine SR ?_
 refine V (aV (I 0) rfl) ?_
 refine V (aV (B false) rfl) ?_
 refine RL.nil ?_
 refine CW.seq ?_
 refine SR ?_
 refine V (mV (I _) rfl) ?_
 refine RL.callP rfl hH (c_rung_chain _  _) (run_call1 call135 rfl) ?_
 intro w1 hH2
 refine V (run_not rfl) ?_
 refine RL.nil ?_
 refine CW.cond rfl (fun h5 => ?_) (fun h5 => ?_)
 ·refine SR ?_
  refine V (aV (I 0) rfl) ?_
  refine V (aV (B false) rfl) ?_
  refine RL.nil ?_
  refine CW.ret ?_
  have hn := chain_f ‹(!chainB n) = true›
  refine outP2 Tryz.results104 (congrArg I ?_) (congrArg B ?_) hH2.below <;> rw [level_no s hn]
 ·refine CW.skip ?_
  refine CW.seq ?_
  refine SR ?_
  refine V (mV (I _) rfl) ?_
  refine V (mV (I 0) rfl) ?_
  refine RL.nil ?_
  refine CW.block ?_
  have hn := chain_t ‹(!chainB n) = false›
  refine CW.loop (G := (Int)) (fun (k : Int) s' w' => (Fr [4, 5, 6, 11, 12, 13, 14, 15, 16, 17, 18, 19] _ s') ∧ (Hp w w' _) ∧ (s' 11 = I k) ∧ (0 ≤ k) ∧ (k ≤ n) ∧ (∀ j : Int, 0 ≤ j → j < k → s ≠ below j)) (fun (k : Int) => (n - k).toNat) (0) ⟨Fr.refl _ _, hH2, rfl, (by omega), (by omega), fun j a b => absurd b (by omega)⟩ ?_
  rintro k sg6 w6 ⟨fr6, hH6, e11_6, h0, hk, hf⟩
  have e1_6 : sg6 1 = U _ := (fr6 1 rfl).trans rfl
  have e10_6 : sg6 10 = I _ := (fr6 10 rfl).trans rfl
  refine SR ?_
  refine V (run_lss e11_6 e10_6) ?_
  refine RL.nil ?_
  refine CW.seq ?_
  refine CW.condP rfl (fun h8 => ?_) (fun h8 => ?_)
  ·refine CW.skip ?_
   refine CW.seq ?_
   refine CW.block ?_
   refine SR ?_
   refine V (run_move e11_6) ?_
   refine V (aV (I _) rfl) ?_
   refine RL.nil ?_
   refine SR ?_
   refine V (run_move e1_6) ?_
   refine V (mV (I _) rfl) ?_
   refine RL.callP rfl hH6 (c_mask_Below _  _) (run_call1 call76 rfl) ?_
   intro w9 hH10
   refine V (run_eqlU rfl rfl) ?_
   refine RL.nil ?_
   refine CW.condP rfl (fun h12 => ?_) (fun h12 => ?_)
   ·refine SR ?_
    refine V (mV (I _) rfl) ?_
    refine V (aV (I _) rfl) ?_
    refine V (aV (B true) rfl) ?_
    refine RL.nil ?_
    refine CW.ret ?_
    refine outP2 Tryz.results104 (congrArg I ?_) (congrArg B ?_) hH10.below <;> rw [level_at hn h0 (by omega) ‹_› hf]
   ·refine CW.skip ?_
    refine CW.region ?_
    refine V (run_add e11_6 rfl (by omega)) ?_
    refine V (mV (I _) rfl) ?_
    refine RL.nil ?_
    refine ⟨k + 1, ?_, fr6.u4.u4.u1, hH10, (congrArg I (by first | rfl | omega)), ?_, ?_, ?_⟩
    ·((try dsimp only); omega)
    ·omega
    ·omega
    ·exact fun j a b => if e : j = k then e ▸ ‹¬ s = below k› else hf j a (by omega)
  ·refine CW.exit (id := 0) rfl ?_
   refine SR ?_
   refine V (aV (I 0) rfl) ?_
   refine V (aV (B false) rfl) ?_
   refine RL.nil ?_
   refine CW.ret ?_
   refine outP2 Tryz.results104 (congrArg I ?_) (congrArg B ?_) hH6.below <;> rw [level_none hn (fun j a b => hf j a (by omega))]

theorem c_mask_in (i : Int) (w : World) : Calls Tryz.prog 160 #[I i] w (Pure (B (inB i)) w) := by
 refine enter Tryz.func160 rfl Tryz.ntmps160 rfl ?_
 have hH := Hp.start w
 refine SR ?_
 refine V (aV (B false) rfl) ?_
 refine RL.nil ?_
 refine SR ?_
 refine V (mV (I _) rfl) ?_
 refine V (run_geq rfl rfl) ?_
 refine V (mV (B _) rfl) ?_
 refine RL.splitP (dj := 5) rfl (fun h2 => ?_) (fun h2 => ?_)
 ·refine RL.gT rfl (bT h2) ?_
  refine V (mV (I _) rfl) ?_
  refine RL.gT rfl (bT h2) ?_
  refine V (run_lss rfl rfl) ?_
  refine V (run_pickT (bT h2) (v := B _) rfl) ?_
  refine V (aV (B _) rfl) ?_
  refine RL.nil ?_
  refine CW.ret ?_
  refine outP1 Tryz.results160 (congrArg B ?_) hH.below
  (simp [inB]; try omega)
 ·refine RL.gF rfl rfl (bF h2) rfl ?_
  refine RL.gF rfl rfl (bF h2) rfl ?_
  refine V (run_pickF (bF h2) (v := B false) rfl) ?_
  refine V (aV (B _) rfl) ?_
  refine RL.nil ?_
  refine CW.ret ?_
  refine outP1 Tryz.results160 (congrArg B ?_) hH.below
  (simp [inB]; try omega)

theorem c_mask_Has (s : BitVec 64) (i : Int) (w : World) : Calls Tryz.prog 162 #[U s, I i] w (Pure (B (hasB s i)) w) := by
 refine enter Tryz.func162 rfl Tryz.ntmps162 rfl ?_
 have hH := Hp.start w
 refine SR ?_
 refine V (aV (B false) rfl) ?_
 refine RL.nil ?_
 refine SR ?_
 refine V (mV (I _) rfl) ?_
 refine RL.callP rfl hH (c_mask_in _  _) (run_call1 call160 rfl) ?_
 intro w1 hH2
 refine V (mV (B _) rfl) ?_
 refine RL.split (dj := 7) rfl (fun h4 => ?_) (fun h4 => ?_)
 ·refine RL.gT rfl (bR (c := true) h4) ?_
  refine V (mV (U _) rfl) ?_
  refine RL.gT rfl (bR (c := true) h4) ?_
  refine V (mV (I _) rfl) ?_
  refine RL.gT rfl (bR (c := true) h4) ?_
  refine V (run_convIU underlying3 underlying120 rfl) ?_
  refine RL.gT rfl (bR (c := true) h4) ?_
  refine V (run_shrU rfl rfl) ?_
  refine RL.gT rfl (bR (c := true) h4) ?_
  refine V (run_andU rfl (b := 1#64) rfl) ?_
  refine RL.gT rfl (bR (c := true) h4) ?_
  refine V (run_eqlU rfl (b := 1#64) rfl) ?_
  refine V (run_pickT (bR (c := true) h4) (v := B _) rfl) ?_
  refine V (aV (B _) rfl) ?_
  refine RL.nil ?_
  refine CW.ret ?_
  refine outP1 Tryz.results162 (congrArg B ?_) hH2.below
  exact has_bit s ‹inB i = true›
 ·refine RL.gF rfl rfl (bR (c := false) h4) rfl ?_
  refine RL.gF rfl rfl (bR (c := false) h4) rfl ?_
  refine RL.gF rfl rfl (bR (c := false) h4) rfl ?_
  refine RL.gF rfl rfl (bR (c := false) h4) rfl ?_
  refine RL.gF rfl rfl (bR (c := false) h4) rfl ?_
  refine RL.gF rfl rfl (bR (c := false) h4) rfl ?_
  refine V (run_pickF (bR (c := false) h4) (v := B false) rfl) ?_
  refine V (aV (B _) rfl) ?_
  refine RL.nil ?_
  refine CW.ret ?_
  refine outP1 Tryz.results162 (congrArg B ?_) hH2.below
  exact (has_no s ‹inB i = false›).symm

theorem c_mask_With (s : BitVec 64) (i : Int) (w : World) : Calls Tryz.prog 149 #[U s, I i] w (Pure (U (withB s i)) w) := by
 refine enter Tryz.func149 rfl Tryz.ntmps149 rfl ?_
 have hH := Hp.start w
 refine SR ?_
 refine V (aV (U 0#64) rfl) ?_
 refine RL.nil ?_
 refine CW.seq ?_
 refine SR ?_
 refine V (mV (I _) rfl) ?_
 refine RL.callP rfl hH (c_mask_in _  _) (run_call1 call160 rfl) ?_
 intro w1 hH2
 refine V (run_not rfl) ?_
 refine RL.nil ?_
 refine CW.cond rfl (fun h5 => ?_) (fun h5 => ?_)
 ·refine SR ?_
  refine V (mV (U _) rfl) ?_
  refine V (aV (U _) rfl) ?_
  refine RL.nil ?_
  refine CW.ret ?_
  refine outP1 Tryz.results149 (congrArg U ?_) hH2.below
  simp_all [withB]
 ·refine CW.skip ?_
  refine SR ?_
  refine V (mV (U _) rfl) ?_
  refine V (mV (I _) rfl) ?_
  refine V (run_convIU underlying3 underlying120 rfl) ?_
  refine V (run_shlU (a := 1#64) rfl rfl) ?_
  refine V (run_orU rfl rfl) ?_
  refine V (aV (U _) rfl) ?_
  refine RL.nil ?_
  refine CW.ret ?_
  refine outP1 Tryz.results149 (congrArg U ?_) hH2.below
  simp_all [withB]

theorem c_mask_Sub (a b : BitVec 64) (w : World) : Calls Tryz.prog 68 #[U a, U b] w (Pure (B (subB a b)) w) := by
 refine enter Tryz.func68 rfl Tryz.ntmps68 rfl ?_
 have hH := Hp.start w
 refine SR ?_
 refine V (aV (B false) rfl) ?_
 refine RL.nil ?_
 refine SR ?_
 refine V (mV (U _) rfl) ?_
 refine V (mV (U _) rfl) ?_
 refine V (run_andNotU rfl rfl) ?_
 refine V (run_eqlU rfl (b := 0#64) rfl) ?_
 refine V (aV (B _) rfl) ?_
 refine RL.nil ?_
 refine CW.ret ?_
 refine outP1 Tryz.results68 (congrArg B ?_) hH.below
 rfl

theorem c_mask_Of (v : Value) (l : List Int) (w : World) (hs : Sl w v 1 l.length (l.map I)) : Calls Tryz.prog 139 #[v] w (Pure (U (ofl l)) w) := by
 have hm := hs.small
 unfold maxLen at hm
 refine enter Tryz.func139 rfl Tryz.ntmps139 rfl ?_
 have hH := Hp.start w
 refine SR ?_
 refine V (aV (U 0#64) rfl) ?_
 refine RL.nil ?_
 refine SR ?_
 refine V (aV (U 0#64) rfl) ?_
 refine RL.nil ?_
 refine CW.seq ?_
 refine SR ?_
 refine V (run_move (by conv => lhs; whnf)) ?_
 refine V (run_lenSl (hs.hp hH) rfl underlying111 rfl) ?_
 refine V (mV (I 0) rfl) ?_
 refine RL.nil ?_
 refine CW.block ?_
 refine CW.loop (G := (Int)) (fun (k : Int) s' w' => (Fr [3, 5, 8, 9, 10, 11, 12, 13, 14, 15] _ s') ∧ (Hp w w' _) ∧ (s' 3 = U (ofl (l.take k.toNat))) ∧ (s' 8 = I k) ∧ (0 ≤ k) ∧ (k ≤ l.length)) (fun (k : Int) => (l.length - k).toNat) (0) ⟨Fr.refl _ _, hH, (congrArg U (by simp [ofl_nil])), rfl, (by omega), (by omega)⟩ ?_
 rintro k sg1 w1 ⟨fr1, hH1, e3_1, e8_1, h0, hk⟩
 have e2_1 : sg1 2 = U _ := (fr1 2 rfl).trans rfl
 have e6_1 := (fr1 6 rfl).trans (by conv => lhs; whnf)
 have e7_1 : sg1 7 = I _ := (fr1 7 rfl).trans rfl
 refine SR ?_
 refine V (run_lss e8_1 e7_1) ?_
 refine RL.nil ?_
 refine CW.seq ?_
 refine CW.condP rfl (fun h3 => ?_) (fun h3 => ?_)
 ·refine CW.skip ?_
  refine CW.seq ?_
  refine CW.block ?_
  refine SR ?_
  refine V (run_indexAddrS (hs.hp hH1) underlying111 sizeOf3 e6_1 e8_1 (by omega)) ?_
  refine V (run_ld underlying3 rfl rfl ((hs.hp hH1).cell _ _ (map_at (by omega)))) ?_
  refine V (aV (I _) rfl) ?_
  refine RL.nil ?_
  refine CW.region ?_
  refine V (run_move e3_1) ?_
  refine V (mV (I _) rfl) ?_
  refine RL.callP rfl hH1 (c_mask_With _ _  _) (run_call2 call149 rfl rfl) ?_
  intro w4 hH5
  refine V (aV (U _) rfl) ?_
  refine RL.nil ?_
  refine CW.region ?_
  refine V (run_add e8_1 rfl (by omega)) ?_
  refine V (mV (I _) rfl) ?_
  refine RL.nil ?_
  refine ⟨k + 1, ?_, fr1.u4.u4.u1.u1, hH5, (congrArg U (by rw [withB_ofl, ← take_next h0 ‹_›])), (congrArg I (by first | rfl | omega)), ?_, ?_⟩
  ·((try dsimp only); omega)
  ·omega
  ·omega
 ·refine CW.exit (id := 0) rfl ?_
  refine SR ?_
  refine V (run_move e3_1) ?_
  refine V (aV (U _) rfl) ?_
  refine RL.nil ?_
  refine CW.ret ?_
  refine outP1 Tryz.results139 (congrArg U ?_) hH1.below
  rw [take_all ‹_›]

theorem c_clearanceref01_Has (s : BitVec 64) (i : Int) (w : World) : Calls Tryz.prog 98 #[U s, I i] w (Pure (B (hasB s i)) w) := by
 refine enter Tryz.func98 rfl Tryz.ntmps98 rfl ?_
 have hH := Hp.start w
 refine SR ?_
 refine V (aV (B false) rfl) ?_
 refine RL.nil ?_
 refine CW.seq ?_
 refine SR ?_
 refine V (mV (I _) rfl) ?_
 refine V (run_lss rfl rfl) ?_
 refine V (mV (B _) rfl) ?_
 refine RL.splitP (dj := 8) rfl (fun h2 => ?_) (fun h2 => ?_)
 ·refine RL.gF rfl rfl (bT h2) rfl ?_
  refine RL.gF rfl rfl (bT h2) rfl ?_
  refine V (run_pickT (bT h2) (v := B true) rfl) ?_
  refine RL.nil ?_
  refine CW.condT rfl ?_
  refine SR ?_
  refine V (aV (B false) rfl) ?_
  refine RL.nil ?_
  refine CW.ret ?_
  refine outP1 Tryz.results98 (congrArg B ?_) hH.below
  exact (has_no s (by simp [inB]; omega)).symm
 ·refine RL.gT rfl (bF h2) ?_
  refine V (mV (I _) rfl) ?_
  refine RL.gT rfl (bF h2) ?_
  refine V (run_gtr rfl rfl) ?_
  refine V (run_pickF (bF h2) (v := B _) rfl) ?_
  refine RL.nil ?_
  refine CW.condP rfl (fun h4 => ?_) (fun h4 => ?_)
  ·refine SR ?_
   refine V (aV (B false) rfl) ?_
   refine RL.nil ?_
   refine CW.ret ?_
   refine outP1 Tryz.results98 (congrArg B ?_) hH.below
   exact (has_no s (by simp [inB]; omega)).symm
  ·refine CW.skip ?_
   refine CW.seq ?_
   refine SR ?_
   refine V (aV (I 0) rfl) ?_
   refine RL.nil ?_
   refine CW.block ?_
   refine CW.loop (G := (Int)) (fun (k : Int) s' w' => (Fr [0, 5, 12, 13, 14, 15, 16, 17, 18] _ s') ∧ (Hp w w' _) ∧ (s' 0 = U (s >>> k.toNat)) ∧ (s' 5 = I k) ∧ (0 ≤ k) ∧ (k ≤ i)) (fun (k : Int) => (i - k).toNat) (0) ⟨Fr.refl _ _, hH, (congrArg U (by simp)), rfl, (by omega), (by omega)⟩ ?_
   rintro k sg5 w5 ⟨fr5, hH5, e0_5, e5_5, h0, hk⟩
   have e1_5 : sg5 1 = I _ := (fr5 1 rfl).trans rfl
   have e4_5 : sg5 4 = B _ := (fr5 4 rfl).trans rfl
   refine CW.seq ?_
   refine SR ?_
   refine V (run_move e5_5) ?_
   refine V (run_move e1_5) ?_
   refine V (run_lss rfl rfl) ?_
   refine RL.nil ?_
   refine CW.condP rfl (fun h7 => ?_) (fun h7 => ?_)
   ·refine CW.skip ?_
    refine CW.seq ?_
    refine CW.block ?_
    refine CW.region ?_
    refine V (run_move e0_5) ?_
    refine V (run_quoU rfl (b := 2#64) rfl (by decide)) ?_
    refine V (aV (U _) rfl) ?_
    refine RL.nil ?_
    refine CW.region ?_
    refine V (run_move e5_5) ?_
    refine V (run_add rfl rfl (by omega)) ?_
    refine V (aV (I _) rfl) ?_
    refine RL.nil ?_
    refine ⟨k + 1, ?_, fr5.u4.u4.u1, hH5, (congrArg U (by rw [half, show (k + 1).toNat = k.toNat + 1 by omega])), (congrArg I (by first | rfl | omega)), ?_, ?_⟩
    ·((try dsimp only); omega)
    ·omega
    ·omega
   ·refine CW.exit (id := 0) rfl ?_
    refine SR ?_
    refine V (run_move e0_5) ?_
    refine V (run_remU rfl (b := 2#64) rfl (by decide)) ?_
    refine V (run_eqlU rfl (b := 1#64) rfl) ?_
    refine V (aV (B _) rfl) ?_
    refine RL.nil ?_
    refine CW.ret ?_
    refine outP1 Tryz.results98 (congrArg B ?_) hH5.below
    (rw [hasB, show inB i = true by simp [inB]; omega, show k = i by omega]; rw [Bool.eq_iff_iff]; simp only [decide_eq_true_eq, Bool.true_and]; exact rem_bit s _)

theorem c_clearanceref01_List (s : BitVec 64) (w : World) : Calls Tryz.prog 97 #[U s] w (PureRow 3 1 (lst s).length ((lst s).map I) w) := by
 refine enter Tryz.func97 rfl Tryz.ntmps97 rfl ?_
 have hH := Hp.start w
 refine SR ?_
 refine V (aV (.slice none 0 0) rfl) ?_
 have hH1 := hH.nilRow 3 1
 refine RL.nil ?_
 refine SR ?_
 refine V (aV (.slice none 0 0) rfl) ?_
 have hH2 := hH1.nilRow 3 1
 refine RL.nil ?_
 refine CW.seq ?_
 refine SR ?_
 refine V (aV (I 0) rfl) ?_
 refine RL.nil ?_
 refine CW.block ?_
 refine CW.loop (G := (Int) × (List Int) × (Value)) (fun (⟨k, l, v3⟩ : (Int) × (List Int) × (Value)) s' w' => (Fr [0, 3, 4, 5, 6, 7, 8, 9, 10, 11, 12, 13, 14, 15, 16, 17] _ s') ∧ (Hp w w' (.row v3 3 1 (l.length) (l.map I) :: _)) ∧ (s' 0 = U (s >>> k.toNat)) ∧ (s' 3 = v3) ∧ (s' 4 = I k) ∧ (0 ≤ k) ∧ (k ≤ 64) ∧ (l = lstTo s k.toNat)) (fun (⟨k, l, v3⟩ : (Int) × (List Int) × (Value)) => (64 - k).toNat) ((0, [], (.slice none 0 0 : Value))) ⟨Fr.refl _ _, hH2, (congrArg U (by simp)), rfl, rfl, (by omega), (by omega), rfl⟩ ?_
 rintro ⟨k, l, v3⟩ sg3 w3 ⟨fr3, hH3, e0_3, e3_3, e4_3, h0, hk, hl⟩
 have e2_3 := (fr3 2 rfl).trans (by conv => lhs; whnf)
 refine CW.seq ?_
 refine SR ?_
 refine V (run_move e4_3) ?_
 refine V (run_lss rfl rfl) ?_
 refine RL.nil ?_
 refine CW.condP rfl (fun h5 => ?_) (fun h5 => ?_)
 ·refine CW.skip ?_
  refine CW.seq ?_
  refine CW.block ?_
  refine CW.seq ?_
  refine SR ?_
  refine V (run_move e0_3) ?_
  refine V (run_remU rfl (b := 2#64) rfl (by decide)) ?_
  refine V (run_eqlU rfl (b := 1#64) rfl) ?_
  refine RL.nil ?_
  refine CW.condP rfl (fun h7 => ?_) (fun h7 => ?_)
  ·refine CW.region ?_
   refine V (run_move e3_3) ?_
   refine V (run_move e4_3) ?_
   refine RL.new rfl hH3 (f := fun b => (.slice (some ⟨b, 0, none⟩) 1 1)) (run_mkL underlying111 rfl rfl (sz := 1) (vs := [I _]) rfl rfl (by decide) (by decide) rfl rfl) ?_
   intro b10 w8 hH9
   (try simp only [List.flatMap_cons, List.flatMap_nil, clI, clB, clS, clP, clL, clA, List.append_nil, List.cons_append, List.nil_append] at hH9)
   refine RL.app rfl hH9 (i := 1) rfl (hH9.slBlk (i := 0) (n := 1) (sz := 1) rfl rfl (by decide)) rfl rfl underlying111 rfl rfl (size := 1) (bytes := 8) rfl rfl rfl (by decide) (by simp [Value.oneCell']) (by have := lstTo_len s k.toNat; rw [← hl] at this; omega) (by have := lstTo_len s k.toNat; rw [← hl] at this; simp only [maxLen]; omega) ?_
   intro v11 w12 hH13
   simp only [z0, z1] at hH13
   refine V (run_assign (by conv => lhs; whnf)) ?_
   refine RL.nil ?_
   refine CW.region ?_
   refine V (run_move e0_3) ?_
   refine V (run_quoU rfl (b := 2#64) rfl (by decide)) ?_
   refine V (aV (U _) rfl) ?_
   refine RL.nil ?_
   refine CW.region ?_
   refine V (run_move e4_3) ?_
   refine V (run_add rfl rfl (by omega)) ?_
   refine V (aV (I _) rfl) ?_
   refine RL.nil ?_
   refine ⟨(k + 1, l ++ [k], v11), ?_, fr3.u4.u4.u4.u4, (Hp.conv (hH13.sub (sQ sR)) (by first | rfl | simp)), (congrArg U (by rw [half, show (k + 1).toNat = k.toNat + 1 by omega])), rfl, (congrArg I (by first | rfl | omega)), ?_, ?_, ?_⟩
   ·((try dsimp only); omega)
   ·omega
   ·omega
   ·rw [hl, lstTo_yes h0 ‹_›]
  ·refine CW.skip ?_
   refine CW.region ?_
   refine V (run_move e0_3) ?_
   refine V (run_quoU rfl (b := 2#64) rfl (by decide)) ?_
   refine V (aV (U _) rfl) ?_
   refine RL.nil ?_
   refine CW.region ?_
   refine V (run_move e4_3) ?_
   refine V (run_add rfl rfl (by omega)) ?_
   refine V (aV (I _) rfl) ?_
   refine RL.nil ?_
   refine ⟨(k + 1, l, v3), ?_, fr3.u4.u4.u1.u1.u1, (Hp.conv hH3 (by first | rfl | simp)), (congrArg U (by rw [half, show (k + 1).toNat = k.toNat + 1 by omega])), e3_3, (congrArg I (by first | rfl | omega)), ?_, ?_, ?_⟩
   ·((try dsimp only); omega)
   ·omega
   ·omega
   ·rw [hl, lstTo_no h0 ‹_›]
 ·refine CW.exit (id := 0) rfl ?_
  refine SR ?_
  refine V (run_move e3_3) ?_
  refine V (run_assign (by conv => lhs; whnf)) ?_
  refine RL.nil ?_
  refine CW.ret ?_
  exact outR Tryz.results97 rfl hH3 (i := 0) rfl (by rw [hl, lstTo_end ‹_› hk]) (by rw [hl, lstTo_end ‹_› hk])

theorem c_rung_Right (n : Int) (s : BitVec 64) (w : World) : Calls Tryz.prog 75 #[I n, U s] w (Pure (B (level n s).2) w) := by
 refine enter Tryz.func75 rfl Tryz.ntmps75 rfl ?_
 have hH := Hp.start w
 refine SR ?_
 refine V (aV (B false) rfl) ?_
 refine RL.nil ?_
 refine SR ?_
 refine V (mV (I _) rfl) ?_
 refine V (mV (U _) rfl) ?_
 refine RL.callP rfl hH (c_rung_Level _ _  _) (run_call2 call104 rfl rfl) ?_
 intro w1 hH2
 refine V (run_move (by conv => lhs; whnf)) ?_
 refine V (run_extract rfl (v := I _) rfl) ?_
 refine V (run_extract rfl (v := B _) rfl) ?_
 refine V (aV (I _) rfl) ?_
 refine V (aV (B _) rfl) ?_
 refine RL.nil ?_
 refine SR ?_
 refine V (mV (B _) rfl) ?_
 refine V (aV (B _) rfl) ?_
 refine RL.nil ?_
 refine CW.ret ?_
 refine outP1 Tryz.results75 (congrArg B ?_) hH2.below
 rfl

theorem c_bits_TrailingZeros64 (s : BitVec 64) (w : World) (hT : Tab w) : Calls Tryz.prog 147 #[U s] w (Pure (I (tz s)) w) := by
 refine enter Tryz.func147 rfl Tryz.ntmps147 rfl ?_
 have hH := Hp.start w
 refine SR ?_
 refine V (aV (I 0) rfl) ?_
 refine RL.nil ?_
 refine CW.seq ?_
 refine SR ?_
 refine V (mV (U _) rfl) ?_
 refine V (run_eqlU rfl (b := 0#64) rfl) ?_
 refine RL.nil ?_
 refine CW.condP rfl (fun h2 => ?_) (fun h2 => ?_)
 ·refine SR ?_
  refine V (aV (I 64) rfl) ?_
  refine RL.nil ?_
  refine CW.ret ?_
  refine outP1 Tryz.results147 (congrArg I ?_) hH.below
  rw [‹s = 0#64›]; rfl
 ·refine CW.skip ?_
  refine SR ?_
  refine V (mV (U _) rfl) ?_
  refine V (mV (U _) rfl) ?_
  refine V (run_negU rfl) ?_
  refine V (run_andU rfl rfl) ?_
  refine V (run_mulU rfl (b := 285870213051353865#64) rfl) ?_
  refine V (run_shrU rfl (b := 58#64) rfl) ?_
  refine V (run_indexAddrA underlying146 sizeOf5 rfl rfl (by exact tz_idx _)) ?_
  refine V (run_ld underlying5 rfl rfl (hT.at _)) ?_
  refine V (run_convUI underlying5 underlying3 rfl (conv_bd (tztab_bd _))) ?_
  refine V (aV (I _) rfl) ?_
  refine RL.nil ?_
  refine CW.ret ?_
  refine outP1 Tryz.results147 (congrArg I ?_) hH.below
  exact tz_ne ‹_›

theorem c_mask_Each (f : FuncId) (cap : Array Value) (Inv Stop : List Int → World → Prop) (s : BitVec 64) (w : World) (hf : ∀ args w, (callFunc f args).run Tryz.prog w = .ok (.enter f args) w) (hm : ∀ l w w', Inv l w → Below w.heap.size w w' → Inv l w') (hT : ∀ l w, Inv l w → Tab w) (go : ∀ l i r w, lst s = l ++ i :: r → Inv l w → Calls Tryz.prog f (#[I i] ++ cap) w (Ret fun u w' => ∃ c : Bool, u = B c ∧ (c = true → Inv (l ++ [i]) w') ∧ (c = false → Stop (l ++ [i]) w'))) (h0 : Inv [] w) : Calls Tryz.prog 117 #[U s, .func (.func f) #[] cap] w (Ret fun u w' => u = .tuple #[] ∧ (Inv (lst s) w' ∨ ∃ l i r, lst s = l ++ i :: r ∧ Stop (l ++ [i]) w')) := by
 refine enter Tryz.func117 rfl Tryz.ntmps117 rfl ?_
 have hH := Hp.start w
 refine CW.block ?_
 refine CW.loop (G := (BitVec 64) × (List Int)) (fun (⟨s1, l⟩ : (BitVec 64) × (List Int)) s' w' => (Fr [0, 4, 5, 6, 7, 8, 9, 10, 11, 12, 13, 14] _ s') ∧ (Inv l w') ∧ (s' 0 = U s1) ∧ (lst s = l ++ lst s1)) (fun (⟨s1, l⟩ : (BitVec 64) × (List Int)) => (lst s1).length) ((s, [])) ⟨Fr.refl _ _, h0, rfl, (by simp)⟩ ?_
 rintro ⟨s1, l⟩ sg1 w1 ⟨fr1, hH1, e0_1, hl⟩
 have hI1 := hH1
 clear hH1
 have hH1 := Hp.start w1
 have e1_1 : sg1 1 = .func _ _ _ := (fr1 1 rfl).trans rfl
 refine CW.seq ?_
 refine SR ?_
 refine V (run_move e0_1) ?_
 refine V (run_neqU rfl (b := 0#64) rfl) ?_
 refine RL.nil ?_
 refine CW.condP rfl (fun h3 => ?_) (fun h3 => ?_)
 ·refine CW.skip ?_
  refine CW.block ?_
  refine CW.seq ?_
  refine SR ?_
  refine V (run_move e1_1) ?_
  refine V (run_move e0_1) ?_
  refine RL.callP rfl hH1 (c_bits_TrailingZeros64 _ _ (hT _ _ hI1)) (run_call1 call147 rfl) ?_
  intro w4 hH5
  have hI := hm _ _ _ hI1 hH5.below
  refine RL.call rfl (run_callV1 hf rfl (v1 := I (tz s1)) rfl) (go l (tz s1) (lst (s1 &&& (s1 - 1#64))) _ (by rw [hl, lst_tz ‹_›]) hI) ?_
  rintro u8 w6 ⟨c, rfl, hJ1, hJ2⟩
  have hH7 := Hp.start w6
  refine V (run_not rfl) ?_
  refine RL.nil ?_
  refine CW.cond rfl (fun h11 => ?_) (fun h11 => ?_)
  ·refine CW.ret ?_
   exact out0 Tryz.results117 ⟨rfl, .inr ⟨l, tz s1, lst (s1 &&& (s1 - 1#64)), by rw [hl, lst_tz ‹_›], hJ2 (by simpa using ‹(!c) = true›)⟩⟩
  ·refine CW.skip ?_
   refine CW.region ?_
   refine V (run_move e0_1) ?_
   refine V (run_move e0_1) ?_
   refine V (run_subU rfl (b := 1#64) rfl) ?_
   refine V (run_andU rfl rfl) ?_
   refine V (aV (U _) rfl) ?_
   refine RL.nil ?_
   refine ⟨(s1 &&& (s1 - 1#64), l ++ [tz s1]), ?_, fr1.u4.u4.u4, (hJ1 (by simpa using ‹(!c) = false›)), rfl, ?_⟩
   ·exact lst_clear_lt ‹_›
   ·rw [hl, lst_tz ‹_›]; simp
 ·refine CW.exit (id := 0) rfl ?_
  have hn : lst s1 = [] := lst_eq_nil.2 (by simpa using ‹¬ s1 ≠ 0#64›)
  exact out0 Tryz.results117 ⟨rfl, .inl (by rw [hl, hn, List.append_nil]; assumption)⟩

theorem c_mask_List_1 (W0 : World) (b : Nat) (v : Value) (l : List Int) (i : Int) (w : World) (hH : Hp W0 w [.row v 3 1 l.length (l.map I), .blk b (.cells #[v] 111 (0, 0))]) (hlen : l.length ≤ 64) : Calls Tryz.prog 148 #[I i, .pointer (some ⟨b, 0, none⟩)] w (Ret fun u w' => u = B true ∧ ∃ v', Hp W0 w' [.row v' 3 1 (l ++ [i]).length ((l ++ [i]).map I), .blk b (.cells #[v'] 111 (0, 0))]) := by
 refine enter Tryz.func148 rfl Tryz.ntmps148 rfl ?_
 refine SR ?_
 refine V (aV (B false) rfl) ?_
 refine RL.nil ?_
 refine SR ?_
 refine V (run_ld underlying111 rfl rfl (hH.cell (i := 1) rfl rfl)) ?_
 refine V (mV (I _) rfl) ?_
 refine RL.new rfl hH (f := fun b => (.slice (some ⟨b, 0, none⟩) 1 1)) (run_mkL underlying111 rfl rfl (sz := 1) (vs := [I _]) rfl rfl (by decide) (by decide) rfl rfl) ?_
 intro b3 w1 hH2
 (try simp only [List.flatMap_cons, List.flatMap_nil, clI, clB, clS, clP, clL, clA, List.append_nil, List.cons_append, List.nil_append] at hH2)
 refine RL.app rfl hH2 (i := 1) rfl (hH2.slBlk (i := 0) (n := 1) (sz := 1) rfl rfl (by decide)) rfl rfl underlying111 rfl rfl (size := 1) (bytes := 8) rfl rfl rfl (by decide) (by simp [Value.oneCell']) (by omega) (by simp only [maxLen]; omega) ?_
 intro v4 w5 hH6
 simp only [z0, z1] at hH6
 refine RL.set hH6 (i := 2) rfl (run_st rfl rfl (by conv => lhs; whnf) (row_cells (hH6.get (i := 1) rfl)).1 (row_cells (hH6.get (i := 1) rfl)).2 (hH6.blk (i := 2) rfl) (by first | decide | simp)) ?_
 intro w7 hH8
 simp only [z0, z1] at hH8
 refine RL.nil ?_
 refine SR ?_
 refine V (aV (B true) rfl) ?_
 refine RL.nil ?_
 refine CW.ret ?_
 exact out1 Tryz.results148 rfl ⟨rfl, (v4 : Value), Hp.conv hH8.tail (by simp)⟩

theorem c_mask_List (s : BitVec 64) (w : World) (hT : Tab w) : Calls Tryz.prog 120 #[U s] w (PureRow 3 1 (lst s).length ((lst s).map I) w) := by
 refine enter Tryz.func120 rfl Tryz.ntmps120 rfl ?_
 have hH := Hp.start w
 refine SR ?_
 refine V (aV (.slice none 0 0) rfl) ?_
 refine RL.nil ?_
 refine SR ?_
 refine RL.new rfl hH (f := fun b => (.pointer (some ⟨b, 0, none⟩))) (run_alloc Tryz.zeroValue111) ?_
 intro b3 w1 hH2
 have hH4 := hH2.nilRow 3 1
 refine RL.nil ?_
 refine SR ?_
 refine V (mV (U _) rfl) ?_
 refine V (run_mkF1 (by conv => lhs; whnf)) ?_
 refine RL.call rfl (run_call2 call117 (v1 := U s) rfl (v2 := .func (.func 148) #[] #[.pointer (some ⟨b3, 0, none⟩)]) rfl) (c_mask_Each 148 _ (fun l w' => ∃ v, Hp w w' [.row v 3 1 l.length (l.map I), .blk b3 (.cells #[v] 111 (0, 0))]) (fun _ _ => False) s _ call148 (fun l w' w'' h hb => h.imp fun v h => h.call hb) (fun l w' h => h.elim fun v h => hT.hp h) (fun l i r w' he h => h.elim fun v h => by
   have hl64 : l.length ≤ 64 := by have := lst_len s; rw [he] at this; simp at this; omega
   have hc := c_mask_List_1 w b3 v l i w' h hl64
   refine Ret.calls hc ?_
   intro u w2 hq
   exact ⟨true, hq.1, fun _ => hq.2, fun h => by cases h⟩) ⟨.slice none 0 0, hH4⟩) ?_
 rintro u w5 ⟨rfl, hor⟩
 obtain ⟨v7, hH6⟩ := hor.resolve_right (fun ⟨_, _, _, _, h⟩ => h)
 refine RL.nil ?_
 refine SR ?_
 refine V (run_ld underlying111 rfl rfl (hH6.cell (i := 1) rfl rfl)) ?_
 refine V (run_assign (by conv => lhs; whnf)) ?_
 refine RL.nil ?_
 refine CW.ret ?_
 exact outR Tryz.results120 rfl hH6 (i := 0) rfl (rfl) (rfl)

theorem c_clearanceref01_Sub (a b : BitVec 64) (w : World) : Calls Tryz.prog 70 #[U a, U b] w (Pure (B (subB a b)) w) := by
 have hl := lst_len a
 refine enter Tryz.func70 rfl Tryz.ntmps70 rfl ?_
 have hH := Hp.start w
 refine SR ?_
 refine V (aV (B false) rfl) ?_
 refine RL.nil ?_
 refine SR ?_
 refine V (mV (U _) rfl) ?_
 refine RL.callR rfl hH (c_clearanceref01_List _  _) (run_call1 call97 rfl) ?_
 intro v3 w1 hH2
 refine V (run_assign (by conv => lhs; whnf)) ?_
 refine RL.nil ?_
 refine CW.seq ?_
 refine SR ?_
 refine V (aV (I 0) rfl) ?_
 refine RL.nil ?_
 refine CW.block ?_
 refine CW.loop (G := (Int)) (fun (k : Int) s' w' => (Fr [4, 6, 9, 10, 11, 12, 13, 14, 15, 16, 17, 18, 19, 20, 21] _ s') ∧ (Hp w w' _) ∧ (s' 6 = I k) ∧ (0 ≤ k) ∧ (k ≤ (lst a).length) ∧ (∀ j : Int, 0 ≤ j → j < k → hasB b ((lst a).getD j.toNat 0) = true)) (fun (k : Int) => ((lst a).length - k).toNat) (0) ⟨Fr.refl _ _, hH2, rfl, (by omega), (by omega), fun j a b => absurd b (by omega)⟩ ?_
 rintro k sg4 w4 ⟨fr4, hH4, e6_4, h0, hk, hf⟩
 have e1_4 : sg4 1 = U _ := (fr4 1 rfl).trans rfl
 have e5_4 := (fr4 5 rfl).trans (by conv => lhs; whnf)
 refine CW.seq ?_
 refine SR ?_
 refine V (run_move e6_4) ?_
 refine V (run_move e5_4) ?_
 refine V (run_lenSl (hH4.sl (i := 0) rfl) rfl underlying111 rfl) ?_
 refine V (run_lss rfl rfl) ?_
 refine RL.nil ?_
 refine CW.condP rfl (fun h6 => ?_) (fun h6 => ?_)
 ·refine CW.skip ?_
  refine CW.seq ?_
  refine CW.block ?_
  refine SR ?_
  refine V (run_move e1_4) ?_
  refine V (run_move e5_4) ?_
  refine V (run_move e6_4) ?_
  refine V (run_indexAddrS (hH4.sl (i := 0) rfl) underlying111 sizeOf3 rfl rfl (by omega)) ?_
  refine V (run_ld underlying3 rfl rfl ((hH4.sl (i := 0) rfl).cell _ _ (map_at (by omega)))) ?_
  refine RL.callP rfl hH4 (c_clearanceref01_Has _ _  _) (run_call2 call98 rfl rfl) ?_
  intro w7 hH8
  refine V (run_not rfl) ?_
  refine RL.nil ?_
  refine CW.cond rfl (fun h11 => ?_) (fun h11 => ?_)
  ·refine SR ?_
   refine V (aV (B false) rfl) ?_
   refine RL.nil ?_
   refine CW.ret ?_
   refine outP1 Tryz.results70 (congrArg B ?_) hH8.below
   (exact (subB_no h0 ‹_› ‹_›).symm)
  ·refine CW.skip ?_
   refine CW.region ?_
   refine V (run_move e6_4) ?_
   refine V (run_add rfl rfl (by omega)) ?_
   refine V (aV (I _) rfl) ?_
   refine RL.nil ?_
   refine ⟨k + 1, ?_, fr4.u4.u4.u4.u1.u1, hH8, (congrArg I (by first | rfl | omega)), ?_, ?_, ?_⟩
   ·((try dsimp only); omega)
   ·omega
   ·omega
   ·exact fun j x y => if e : j = k then e ▸ (by simpa using ‹(!hasB b ((lst a).getD k.toNat 0)) = false›) else hf j x (by omega)
 ·refine CW.exit (id := 0) rfl ?_
  refine SR ?_
  refine V (aV (B true) rfl) ?_
  refine RL.nil ?_
  refine CW.ret ?_
  refine outP1 Tryz.results70 (congrArg B ?_) hH4.below
  (exact (subB_yes fun j x y => hf j x (by omega)).symm)

theorem c_relate_points (r : Rl) (w : World) : Calls Tryz.prog 142 #[.agg (relC r)] w (Pure (I (pts r)) w) := by
 refine enter Tryz.func142 rfl Tryz.ntmps142 rfl ?_
 have hH := Hp.start w
 refine SR ?_
 refine RL.new rfl hH (f := fun b => (.pointer (some ⟨b, 0, none⟩))) (run_box (v := .agg _) rfl) ?_
 intro b3 w1 hH2
 refine V (aV (I 0) rfl) ?_
 refine RL.nil ?_
 refine SR ?_
 refine V (fA underlying57 0 rfl sizeOf3 rfl) ?_
 refine V (run_ld underlying3 rfl rfl (hH2.cell (i := 0) rfl (relC_N _))) ?_
 refine V (run_minI rfl rfl) ?_
 refine V (run_maxI rfl rfl) ?_
 refine V (aV (I _) rfl) ?_
 refine RL.nil ?_
 refine CW.ret ?_
 refine outP1 Tryz.results142 (congrArg I ?_) hH2.below
 rfl

theorem c_relate_row (r : Rl) (i : Int) (hi : 0 ≤ i ∧ i < 64) (w : World) : Calls Tryz.prog 154 #[.agg (relC r), I i] w (Pure (U (rowR r i)) w) := by
 refine enter Tryz.func154 rfl Tryz.ntmps154 rfl ?_
 have hH := Hp.start w
 refine SR ?_
 refine RL.new rfl hH (f := fun b => (.pointer (some ⟨b, 0, none⟩))) (run_box (v := .agg _) rfl) ?_
 intro b3 w1 hH2
 refine V (aV (U 0#64) rfl) ?_
 refine RL.nil ?_
 refine CW.seq ?_
 refine CW.regionD (by kernel_rfl) hH2 ?_
 intro w4 hH5
 refine AT 0 rfl (hH5.sub sR) (fun w hS => mV (I _) rfl) ?_
 refine AT 1 rfl (hH5.sub sR) (fun w hS => fA underlying57 1 rfl sizeOf55 rfl) ?_
 refine AT 2 rfl (hH5.sub sR) (fun w hS => run_indexAddrA underlying55 sizeOf49 rfl rfl (by omega)) ?_
 refine AT 3 rfl (hH5.sub sR) (fun w hS => run_ld underlying49 rfl rfl (hS.cell (i := 0) rfl (relC_up _ (by omega)))) ?_
 refine AT 4 rfl (hH5.sub sR) (fun w hS => run_ldRel underlying57 rfl rfl rfl (hS.blk (i := 0) rfl)) ?_
 refine A1 5 ?_
 refine AO.callP rfl gnone rfl hH5 sR (c_relate_points _  _) (run_call1 call142 rfl) ?_
 intro w6 hH7
 refine A1 6 ?_
 refine AO.callP rfl gnone rfl hH7 sR (c_mask_Below _  _) (run_call1 call76 rfl) ?_
 intro w8 hH9
 refine AT 7 rfl (hH9.sub sR) (fun w hS => run_andU rfl rfl) ?_
 refine AT 8 rfl (hH9.sub sR) (fun w hS => aV (U _) rfl) ?_
 refine AD ?_
 refine CW.ret ?_
 refine outP1 Tryz.results154 (congrArg U ?_) hH9.below
 rfl

theorem c_relate_plain (r : Rl) (w : World) : Calls Tryz.prog 130 #[.agg (relC r)] w (Pure (.agg (relC (plainR r))) w) := by
 have hp := pts_bd r
 refine enter Tryz.func130 rfl Tryz.ntmps130 rfl ?_
 have hH := Hp.start w
 refine SR ?_
 refine RL.new rfl hH (f := fun b => (.pointer (some ⟨b, 0, none⟩))) (run_box (v := .agg _) rfl) ?_
 intro b3 w1 hH2
 refine RL.new rfl hH2 (f := fun b => (.pointer (some ⟨b, 0, none⟩))) (run_alloc zero_rel) ?_
 intro b6 w4 hH5
 refine RL.nil ?_
 refine SR ?_
 refine V (run_ldRel underlying57 rfl rfl rfl (hH5.blk (i := 1) rfl)) ?_
 refine RL.callP rfl hH5 (c_relate_points _  _) (run_call1 call142 rfl) ?_
 intro w7 hH8
 refine V (run_bld (vs := [(0, I _)]) rfl (built_rel _)) ?_
 refine RL.new rfl hH8 (f := fun b => (.pointer (some ⟨b, 0, none⟩))) (run_alloc zero_rel) ?_
 intro b11 w9 hH10
 refine RL.set hH10 (i := 0) rfl (run_stRel rfl rfl rfl (hH10.blk (i := 0) rfl)) ?_
 intro w12 hH13
 simp only [z0, z1] at hH13
 refine RL.nil ?_
 refine CW.seq ?_
 refine SR ?_
 refine V (fA underlying57 0 rfl sizeOf3 rfl) ?_
 refine V (run_ld underlying3 rfl rfl (hH13.cell (i := 0) rfl (relC_N _))) ?_
 refine V (mV (I 0) rfl) ?_
 refine RL.nil ?_
 refine CW.block ?_
 have hz : (⟨pts r, fun _ => 0#64⟩ : Rl).n = pts r := rfl
 refine CW.loop (G := (Int) × (Rl)) (fun (⟨k, r1⟩ : (Int) × (Rl)) s' w' => (Fr [4, 10, 11, 12, 13, 14, 15, 16, 17, 18, 19] _ s') ∧ (Hp w w' (.blk b11 (.cells (relC r1) 57 (0, 0)) :: _)) ∧ (s' 10 = I k) ∧ (0 ≤ k) ∧ (k ≤ pts r) ∧ (r1 = fillR (pts r) (fun i => rowR r i) k)) (fun (⟨k, r1⟩ : (Int) × (Rl)) => (pts r - k).toNat) ((0, ⟨pts r, fun _ => 0#64⟩)) ⟨Fr.refl _ _, hH13, rfl, (by omega), (by omega), fill_zero _ _⟩ ?_
 rintro ⟨k, r1⟩ sg14 w14 ⟨fr14, hH14, e10_14, h0, hk, hr⟩
 have e1_14 : sg14 1 = Pn _ _ := (fr14 1 rfl).trans rfl
 have e2_14 : sg14 2 = Pn _ _ := (fr14 2 rfl).trans rfl
 have e3_14 : sg14 3 = Pn _ _ := (fr14 3 rfl).trans rfl
 have e9_14 : sg14 9 = I _ := (fr14 9 rfl).trans rfl
 have hn : r1.n = pts r := by rw [hr]; rfl
 refine SR ?_
 refine V (run_lss e10_14 e9_14) ?_
 refine RL.nil ?_
 refine CW.seq ?_
 refine CW.condP rfl (fun h16 => ?_) (fun h16 => ?_)
 ·refine CW.skip ?_
  refine CW.seq ?_
  refine CW.block ?_
  refine SR ?_
  refine V (run_move e10_14) ?_
  refine V (aV (I _) rfl) ?_
  refine RL.nil ?_
  refine CW.region ?_
  refine V (mV (I _) rfl) ?_
  refine V (run_ldRel underlying57 rfl rfl e1_14 (hH14.blk (i := 2) rfl)) ?_
  refine V (mV (I _) rfl) ?_
  refine RL.callP rfl hH14 (c_relate_row _ _ (by first | assumption | omega | (dsimp only at *; omega) | exact lst_at_bd (by assumption) (by assumption) | exact low_bd (lst_at (by assumption) (by assumption))) _) (run_call2 call154 rfl rfl) ?_
  intro w17 hH18
  refine V (fA underlying57 1 rfl sizeOf55 e3_14) ?_
  refine V (run_indexAddrA underlying55 sizeOf49 rfl rfl (by first | omega | (dsimp only at *; omega))) ?_
  refine RL.set hH18 (i := 0) rfl (run_st rfl rfl (v := U _) rfl rfl rfl (hH18.blk (i := 0) rfl) (by rw [relC_size]; omega)) ?_
  intro w19 hH20
  simp only [z0, z1] at hH20
  rw [relC_put] at hH20
  refine RL.nil ?_
  refine CW.region ?_
  refine V (run_add e10_14 rfl (by omega)) ?_
  refine V (mV (I _) rfl) ?_
  refine RL.nil ?_
  refine ⟨(k + 1, _), ?_, fr14.u4.u4.u1.u1.u1, hH20, (congrArg I (by first | rfl | omega)), ?_, ?_, ?_⟩
  ·((try dsimp only); omega)
  ·omega
  ·omega
  ·rw [hr]; exact fill_put h0 (by rw [Int.toNat_of_nonneg h0])
 ·refine CW.exit (id := 0) rfl ?_
  refine SR ?_
  refine V (run_ldRel underlying57 rfl rfl e3_14 (hH14.blk (i := 0) rfl)) ?_
  refine RL.set hH14 (i := 1) rfl (run_stRel rfl e2_14 rfl (hH14.blk (i := 1) rfl)) ?_
  intro w21 hH22
  simp only [z0, z1] at hH22
  refine RL.nil ?_
  refine CW.ret ?_
  refine outC Tryz.results130 e2_14 hH22 (i := 1) rfl underlying57 rfl rfl ⟨?_, hH22.below⟩
  (rw [hr, show k = pts r by omega]; rfl)

theorem c_relate_Up (r : Rl) (s : BitVec 64) (w : World) (hT : Tab w) : Calls Tryz.prog 138 #[.agg (relC r), U s] w (Pure (U (upR r s)) w) := by
 have hp := pts_bd r
 refine enter Tryz.func138 rfl Tryz.ntmps138 rfl ?_
 have hH := Hp.start w
 refine SR ?_
 refine RL.new rfl hH (f := fun b => (.pointer (some ⟨b, 0, none⟩))) (run_box (v := .agg _) rfl) ?_
 intro b3 w1 hH2
 refine V (aV (U 0#64) rfl) ?_
 refine RL.nil ?_
 refine SR ?_
 refine V (aV (U 0#64) rfl) ?_
 refine RL.nil ?_
 refine CW.seq ?_
 refine SR ?_
 refine V (mV (U _) rfl) ?_
 refine V (run_ldRel underlying57 rfl rfl rfl (hH2.blk (i := 0) rfl)) ?_
 refine RL.callP rfl hH2 (c_relate_points _  _) (run_call1 call142 rfl) ?_
 intro w4 hH5
 refine RL.callP rfl hH5 (c_mask_Below _  _) (run_call1 call76 rfl) ?_
 intro w6 hH7
 refine V (run_andU rfl rfl) ?_
 refine RL.callR rfl hH7 (c_mask_List _  _ (hT.hp hH7)) (run_call1 call120 rfl) ?_
 intro v10 w8 hH9
 refine V (run_lenSl (hH9.sl (i := 0) rfl) rfl underlying111 rfl) ?_
 refine V (mV (I 0) rfl) ?_
 refine RL.nil ?_
 refine CW.block ?_
 have hl := lst_len (s &&& below (pts r))
 refine CW.loop (G := (Int)) (fun (k : Int) s' w' => (Fr [5, 7, 15, 16, 17, 18, 19, 20, 21, 22, 23, 24] _ s') ∧ (Hp w w' _) ∧ (s' 5 = U (orAll (rowR r) ((lst (s &&& below (pts r))).take k.toNat))) ∧ (s' 15 = I k) ∧ (0 ≤ k) ∧ (k ≤ (lst (s &&& below (pts r))).length)) (fun (k : Int) => ((lst (s &&& below (pts r))).length - k).toNat) (0) ⟨Fr.refl _ _, hH9, (congrArg U (by simp [orAll])), rfl, (by omega), (by omega)⟩ ?_
 rintro k sg11 w11 ⟨fr11, hH11, e5_11, e15_11, h0, hk⟩
 have e2_11 : sg11 2 = Pn _ _ := (fr11 2 rfl).trans rfl
 have e4_11 : sg11 4 = U _ := (fr11 4 rfl).trans rfl
 have e13_11 := (fr11 13 rfl).trans (by conv => lhs; whnf)
 have e14_11 : sg11 14 = I _ := (fr11 14 rfl).trans rfl
 refine SR ?_
 refine V (run_lss e15_11 e14_11) ?_
 refine RL.nil ?_
 refine CW.seq ?_
 refine CW.condP rfl (fun h13 => ?_) (fun h13 => ?_)
 ·refine CW.skip ?_
  refine CW.seq ?_
  refine CW.block ?_
  refine SR ?_
  refine V (run_indexAddrS (hH11.sl (i := 0) rfl) underlying111 sizeOf3 e13_11 e15_11 (by omega)) ?_
  refine V (run_ld underlying3 rfl rfl ((hH11.sl (i := 0) rfl).cell _ _ (map_at (by omega)))) ?_
  refine V (aV (I _) rfl) ?_
  refine RL.nil ?_
  refine CW.region ?_
  refine V (run_move e5_11) ?_
  refine V (run_ldRel underlying57 rfl rfl e2_11 (hH11.blk (i := 1) rfl)) ?_
  refine V (mV (I _) rfl) ?_
  refine RL.callP rfl hH11 (c_relate_row _ _ (by first | assumption | omega | (dsimp only at *; omega) | exact lst_at_bd (by assumption) (by assumption) | exact low_bd (lst_at (by assumption) (by assumption))) _) (run_call2 call154 rfl rfl) ?_
  intro w14 hH15
  refine V (run_orU rfl rfl) ?_
  refine V (aV (U _) rfl) ?_
  refine RL.nil ?_
  refine CW.region ?_
  refine V (run_add e15_11 rfl (by omega)) ?_
  refine V (mV (I _) rfl) ?_
  refine RL.nil ?_
  refine ⟨k + 1, ?_, fr11.u4.u4.u4, hH15, (congrArg U (orAll_next h0 ‹_›)), (congrArg I (by first | rfl | omega)), ?_, ?_⟩
  ·((try dsimp only); omega)
  ·omega
  ·omega
 ·refine CW.exit (id := 0) rfl ?_
  refine SR ?_
  refine V (run_move e5_11) ?_
  refine V (aV (U _) rfl) ?_
  refine RL.nil ?_
  refine CW.ret ?_
  refine outP1 Tryz.results138 (congrArg U ?_) hH11.below
  (rw [take_all ‹_›]; rfl)

theorem c_relate_Down (r : Rl) (s : BitVec 64) (w : World) : Calls Tryz.prog 140 #[.agg (relC r), U s] w (Pure (U (downR r s)) w) := by
 have hp := pts_bd r
 refine enter Tryz.func140 rfl Tryz.ntmps140 rfl ?_
 have hH := Hp.start w
 refine SR ?_
 refine RL.new rfl hH (f := fun b => (.pointer (some ⟨b, 0, none⟩))) (run_box (v := .agg _) rfl) ?_
 intro b3 w1 hH2
 refine V (aV (U 0#64) rfl) ?_
 refine RL.nil ?_
 refine SR ?_
 refine V (aV (U 0#64) rfl) ?_
 refine RL.nil ?_
 refine CW.seq ?_
 refine SR ?_
 refine V (run_ldRel underlying57 rfl rfl rfl (hH2.blk (i := 0) rfl)) ?_
 refine RL.callP rfl hH2 (c_relate_points _  _) (run_call1 call142 rfl) ?_
 intro w4 hH5
 refine V (mV (I 0) rfl) ?_
 refine RL.nil ?_
 refine CW.block ?_
 refine CW.loop (G := (Int)) (fun (k : Int) s' w' => (Fr [5, 6, 9, 10, 11, 12, 13, 14, 15, 16, 17, 18, 19, 20, 21] _ s') ∧ (Hp w w' _) ∧ (s' 5 = U (downTo r s k)) ∧ (s' 9 = I k) ∧ (0 ≤ k) ∧ (k ≤ pts r)) (fun (k : Int) => (pts r - k).toNat) (0) ⟨Fr.refl _ _, hH5, (congrArg U (by simp [downTo, bitsTo])), rfl, (by omega), (by omega)⟩ ?_
 rintro k sg6 w6 ⟨fr6, hH6, e5_6, e9_6, h0, hk⟩
 have e1_6 : sg6 1 = U _ := (fr6 1 rfl).trans rfl
 have e2_6 : sg6 2 = Pn _ _ := (fr6 2 rfl).trans rfl
 have e4_6 : sg6 4 = U _ := (fr6 4 rfl).trans rfl
 have e8_6 : sg6 8 = I _ := (fr6 8 rfl).trans rfl
 refine SR ?_
 refine V (run_lss e9_6 e8_6) ?_
 refine RL.nil ?_
 refine CW.seq ?_
 refine CW.condP rfl (fun h8 => ?_) (fun h8 => ?_)
 ·refine CW.skip ?_
  refine CW.seq ?_
  refine CW.block ?_
  refine SR ?_
  refine V (run_move e9_6) ?_
  refine V (aV (I _) rfl) ?_
  refine RL.nil ?_
  refine SR ?_
  refine V (run_ldRel underlying57 rfl rfl e2_6 (hH6.blk (i := 0) rfl)) ?_
  refine V (mV (I _) rfl) ?_
  refine RL.callP rfl hH6 (c_relate_row _ _ (by first | assumption | omega | (dsimp only at *; omega) | exact lst_at_bd (by assumption) (by assumption) | exact low_bd (lst_at (by assumption) (by assumption))) _) (run_call2 call154 rfl rfl) ?_
  intro w9 hH10
  refine V (run_move e1_6) ?_
  refine V (run_andU rfl rfl) ?_
  refine V (run_neqU rfl (b := 0#64) rfl) ?_
  refine RL.nil ?_
  refine CW.condP rfl (fun h12 => ?_) (fun h12 => ?_)
  ·refine CW.region ?_
   refine V (run_move e5_6) ?_
   refine V (mV (I _) rfl) ?_
   refine RL.callP rfl hH10 (c_mask_With _ _  _) (run_call2 call149 rfl rfl) ?_
   intro w13 hH14
   refine V (aV (U _) rfl) ?_
   refine RL.nil ?_
   refine CW.region ?_
   refine V (run_add e9_6 rfl (by omega)) ?_
   refine V (mV (I _) rfl) ?_
   refine RL.nil ?_
   refine ⟨k + 1, ?_, fr6.u4.u4.u4.u1.u1.u1, hH14, (congrArg U (by first | exact down_yes h0 (by omega) ‹_› | exact down_not h0 ‹_›)), (congrArg I (by first | rfl | omega)), ?_, ?_⟩
   ·((try dsimp only); omega)
   ·omega
   ·omega
  ·refine CW.skip ?_
   refine CW.region ?_
   refine V (run_add e9_6 rfl (by omega)) ?_
   refine V (mV (I _) rfl) ?_
   refine RL.nil ?_
   refine ⟨k + 1, ?_, fr6.u4.u4.u1.u1.u1, hH10, (Eq.trans e5_6 (congrArg U (by first | exact down_yes h0 (by omega) ‹_› | exact down_not h0 ‹_›))), (congrArg I (by first | rfl | omega)), ?_, ?_⟩
   ·((try dsimp only); omega)
   ·omega
   ·omega
 ·refine CW.exit (id := 0) rfl ?_
  refine SR ?_
  refine V (run_move e5_6) ?_
  refine V (aV (U _) rfl) ?_
  refine RL.nil ?_
  refine CW.ret ?_
  refine outP1 Tryz.results140 (congrArg U ?_) hH6.below
  (rw [show k = pts r by omega]; rfl)

theorem c_relate_Closure (r : Rl) (w : World) : Calls Tryz.prog 155 #[.agg (relC r)] w (Pure (.agg (relC (cloR r))) w) := by
 have hp := pts_bd r
 have hn0 : (plainR r).n = pts r := rfl
 refine enter Tryz.func155 rfl Tryz.ntmps155 rfl ?_
 have hH := Hp.start w
 refine SR ?_
 refine RL.new rfl hH (f := fun b => (.pointer (some ⟨b, 0, none⟩))) (run_box (v := .agg _) rfl) ?_
 intro b3 w1 hH2
 refine RL.new rfl hH2 (f := fun b => (.pointer (some ⟨b, 0, none⟩))) (run_alloc zero_rel) ?_
 intro b6 w4 hH5
 refine RL.nil ?_
 refine SR ?_
 refine V (run_ldRel underlying57 rfl rfl rfl (hH5.blk (i := 1) rfl)) ?_
 refine RL.callP rfl hH5 (c_relate_plain _  _) (run_call1 call130 rfl) ?_
 intro w7 hH8
 refine RL.new rfl hH8 (f := fun b => (.pointer (some ⟨b, 0, none⟩))) (run_alloc zero_rel) ?_
 intro b11 w9 hH10
 refine RL.set hH10 (i := 0) rfl (run_stRel rfl rfl rfl (hH10.blk (i := 0) rfl)) ?_
 intro w12 hH13
 simp only [z0, z1] at hH13
 refine RL.nil ?_
 refine CW.seq ?_
 refine SR ?_
 refine V (fA underlying57 0 rfl sizeOf3 rfl) ?_
 refine V (run_ld underlying3 rfl rfl (hH13.cell (i := 0) rfl (relC_N _))) ?_
 refine V (mV (I 0) rfl) ?_
 refine RL.nil ?_
 refine CW.block ?_
 refine CW.loop (G := (Int) × (Rl)) (fun (⟨k, r1⟩ : (Int) × (Rl)) s' w' => (Fr [4, 11, 12, 13, 14, 15, 16, 17, 18, 19, 20, 21, 22, 23] _ s') ∧ (Hp w w' (.blk b11 (.cells (relC r1) 57 (0, 0)) :: _)) ∧ (s' 11 = I k) ∧ (0 ≤ k) ∧ (k ≤ pts r) ∧ (r1 = ⟨pts r, selfTo (plainR r).up k⟩)) (fun (⟨k, r1⟩ : (Int) × (Rl)) => (pts r - k).toNat) ((0, plainR r)) ⟨Fr.refl _ _, hH13, rfl, (by omega), (by omega), self_zero _ _⟩ ?_
 rintro ⟨k, r1⟩ sg14 w14 ⟨fr14, hH14, e11_14, h0, hk, hr⟩
 have e2_14 : sg14 2 = Pn _ _ := (fr14 2 rfl).trans rfl
 have e3_14 : sg14 3 = Pn _ _ := (fr14 3 rfl).trans rfl
 have e10_14 : sg14 10 = I _ := (fr14 10 rfl).trans rfl
 have hn : r1.n = pts r := by rw [hr]
 refine SR ?_
 refine V (run_lss e11_14 e10_14) ?_
 refine RL.nil ?_
 refine CW.seq ?_
 refine CW.condP rfl (fun h16 => ?_) (fun h16 => ?_)
 ·refine CW.skip ?_
  refine CW.seq ?_
  refine CW.block ?_
  refine SR ?_
  refine V (run_move e11_14) ?_
  refine V (aV (I _) rfl) ?_
  refine RL.nil ?_
  refine CW.region ?_
  refine V (mV (I _) rfl) ?_
  refine V (mV (I _) rfl) ?_
  refine V (fA underlying57 1 rfl sizeOf55 e3_14) ?_
  refine V (run_indexAddrA underlying55 sizeOf49 rfl rfl (by first | omega | (dsimp only at *; omega))) ?_
  refine V (run_ld underlying49 rfl rfl (hH14.cell (i := 0) rfl (relC_up _ (by omega)))) ?_
  refine V (mV (I _) rfl) ?_
  refine RL.callP rfl hH14 (c_mask_With _ _  _) (run_call2 call149 rfl rfl) ?_
  intro w17 hH18
  refine V (fA underlying57 1 rfl sizeOf55 e3_14) ?_
  refine V (run_indexAddrA underlying55 sizeOf49 rfl rfl (by first | omega | (dsimp only at *; omega))) ?_
  refine RL.set hH18 (i := 0) rfl (run_st rfl rfl (v := U _) rfl rfl rfl (hH18.blk (i := 0) rfl) (by rw [relC_size]; omega)) ?_
  intro w19 hH20
  simp only [z0, z1] at hH20
  rw [relC_put] at hH20
  refine RL.nil ?_
  refine CW.region ?_
  refine V (run_add e11_14 rfl (by omega)) ?_
  refine V (mV (I _) rfl) ?_
  refine RL.nil ?_
  refine ⟨(k + 1, _), ?_, fr14.u4.u4.u4.u1.u1, hH20, (congrArg I (by first | rfl | omega)), ?_, ?_, ?_⟩
  ·((try dsimp only); omega)
  ·omega
  ·omega
  ·rw [hr]; exact self_put h0
 ·refine CW.exit (id := 0) rfl ?_
  refine CW.seq ?_
  refine SR ?_
  refine V (fA underlying57 0 rfl sizeOf3 e3_14) ?_
  refine V (run_ld underlying3 rfl rfl (hH14.cell (i := 0) rfl (relC_N _))) ?_
  refine V (mV (I 0) rfl) ?_
  refine RL.nil ?_
  refine CW.block ?_
  refine CW.loop (G := (Int) × (Rl)) (fun (⟨m, r2⟩ : (Int) × (Rl)) s' w' => (Fr [5, 6, 26, 27, 28, 29, 30, 31, 32, 33, 34, 35, 36, 37, 38, 39, 40, 41, 42, 43, 44, 45, 46, 47, 48, 49, 50, 51, 52] _ s') ∧ (Hp w w' (.blk b11 (.cells (relC r2) 57 (0, 0)) :: _)) ∧ (s' 26 = I m) ∧ (0 ≤ m) ∧ (m ≤ pts r) ∧ (r2 = ⟨pts r, wall (pts r) (selfTo (plainR r).up (pts r)) m.toNat⟩)) (fun (⟨m, r2⟩ : (Int) × (Rl)) => (pts r - m).toNat) ((0, r1)) ⟨Fr.refl _ _, hH14, rfl, (by omega), (by omega), (by rw [hr, show k = pts r by omega]; rfl)⟩ ?_
  rintro ⟨m, r2⟩ sg21 w21 ⟨fr21, hH21, e26_21, m0, m1, hr2⟩
  have e2_21 := (fr21 2 rfl).trans e2_14
  have e3_21 := (fr21 3 rfl).trans e3_14
  have e25_21 : sg21 25 = I _ := (fr21 25 rfl).trans rfl
  have hn2 : r2.n = pts r := by rw [hr2]
  refine SR ?_
  refine V (run_lss e26_21 e25_21) ?_
  refine RL.nil ?_
  refine CW.seq ?_
  refine CW.condP rfl (fun h23 => ?_) (fun h23 => ?_)
  ·refine CW.skip ?_
   refine CW.seq ?_
   refine CW.block ?_
   refine SR ?_
   refine V (run_move e26_21) ?_
   refine V (aV (I _) rfl) ?_
   refine RL.nil ?_
   refine SR ?_
   refine V (fA underlying57 0 rfl sizeOf3 e3_21) ?_
   refine V (run_ld underlying3 rfl rfl (hH21.cell (i := 0) rfl (relC_N _))) ?_
   refine V (mV (I 0) rfl) ?_
   refine RL.nil ?_
   refine CW.block ?_
   refine CW.loop (G := (Int) × (Rl)) (fun (⟨i, r3⟩ : (Int) × (Rl)) s' w' => (Fr [6, 31, 32, 33, 34, 35, 36, 37, 38, 39, 40, 41, 42, 43, 44, 45, 46, 47, 48, 49, 50, 51] _ s') ∧ (Hp w w' (.blk b11 (.cells (relC r3) 57 (0, 0)) :: _)) ∧ (s' 31 = I i) ∧ (0 ≤ i) ∧ (i ≤ pts r) ∧ (r3 = ⟨pts r, passTo m.toNat i r2.up⟩)) (fun (⟨i, r3⟩ : (Int) × (Rl)) => (pts r - i).toNat) ((0, r2)) ⟨Fr.refl _ _, hH21, rfl, (by omega), (by omega), (by rw [hr2]; exact pass_zero _ _ _)⟩ ?_
   rintro ⟨i, r3⟩ sg24 w24 ⟨fr24, hH24, e31_24, i0, i1, hr3⟩
   have e2_24 := (fr24 2 rfl).trans e2_21
   have e3_24 := (fr24 3 rfl).trans e3_21
   have e5_24 : sg24 5 = I _ := (fr24 5 rfl).trans rfl
   have e25_24 := (fr24 25 rfl).trans e25_21
   have e26_24 := (fr24 26 rfl).trans e26_21
   have e27_24 : sg24 27 = B _ := (fr24 27 rfl).trans rfl
   have e28_24 : sg24 28 = I _ := (fr24 28 rfl).trans rfl
   have e29_24 : sg24 29 = Pn _ _ := (fr24 29 rfl).trans rfl
   have e30_24 : sg24 30 = I _ := (fr24 30 rfl).trans rfl
   have hn3 : r3.n = pts r := by rw [hr3]
   refine SR ?_
   refine V (run_lss e31_24 e30_24) ?_
   refine RL.nil ?_
   refine CW.seq ?_
   refine CW.condP rfl (fun h26 => ?_) (fun h26 => ?_)
   ·refine CW.skip ?_
    refine CW.seq ?_
    refine CW.block ?_
    refine SR ?_
    refine V (run_move e31_24) ?_
    refine V (aV (I _) rfl) ?_
    refine RL.nil ?_
    refine SR ?_
    refine V (mV (I _) rfl) ?_
    refine V (fA underlying57 1 rfl sizeOf55 e3_24) ?_
    refine V (run_indexAddrA underlying55 sizeOf49 rfl rfl (by first | omega | (dsimp only at *; omega))) ?_
    refine V (run_ld underlying49 rfl rfl (hH24.cell (i := 0) rfl (relC_up _ (by omega)))) ?_
    refine V (run_move e5_24) ?_
    refine RL.callP rfl hH24 (c_mask_Has _ _  _) (run_call2 call162 rfl rfl) ?_
    intro w27 hH28
    refine RL.nil ?_
    refine CW.cond rfl (fun h30 => ?_) (fun h30 => ?_)
    ·refine CW.regionS (by kernel_rfl) hH28 (sQ sR) ?_
     intro w31 hH32
     refine AT 0 rfl (hH32.sub (sQ sR)) (fun w hS => mV (I _) rfl) ?_
     refine AT 1 rfl (hH32.sub (sQ sR)) (fun w hS => fA underlying57 1 rfl sizeOf55 e3_24) ?_
     refine AT 2 rfl (hH32.sub (sQ sR)) (fun w hS => run_indexAddrA underlying55 sizeOf49 rfl rfl (by first | omega | (dsimp only at *; omega))) ?_
     refine AT 4 rfl (hH32.sub (sQ sR)) (fun w hS => run_move e5_24) ?_
     refine AT 5 rfl (hH32.sub (sQ sR)) (fun w hS => fA underlying57 1 rfl sizeOf55 e3_24) ?_
     refine AT 6 rfl (hH32.sub (sQ sR)) (fun w hS => run_indexAddrA underlying55 sizeOf49 rfl rfl (by first | omega | (dsimp only at *; omega))) ?_
     refine AT 9 rfl (hH32.sub (sQ sR)) (fun w hS => fA underlying57 1 rfl sizeOf55 e3_24) ?_
     refine AN.two 3 7 (by kernel_rfl) ?_ ?_
     ·refine AO.read rfl gnone rfl hH32 (sQ sR) (run_ld underlying49 rfl rfl (hH32.cell (i := 0) rfl (relC_up _ (by omega)))) ?_
      refine A1 7 ?_
      refine AO.read rfl gnone rfl hH32 (sQ sR) (run_ld underlying49 rfl rfl (hH32.cell (i := 0) rfl (relC_up _ (by omega)))) ?_
      refine AT 8 rfl (hH32.sub (sQ sR)) (fun w hS => run_orU rfl rfl) ?_
      refine AT 10 rfl (hH32.sub (sQ sR)) (fun w hS => run_indexAddrA underlying55 sizeOf49 rfl rfl (by first | omega | (dsimp only at *; omega))) ?_
      refine A1 11 ?_
      refine AO.set rfl gnone hH32 (j := 0) rfl (sQ sR) (run_st rfl rfl (v := U _) rfl rfl rfl (hH32.blk (i := 0) rfl) (by rw [relC_size]; omega)) ?_
      intro w39 hH40
      simp only [z0, z1] at hH40
      rw [relC_put] at hH40
      refine AD ?_
      refine CW.region ?_
      refine V (run_add e31_24 rfl (by omega)) ?_
      refine V (mV (I _) rfl) ?_
      refine RL.nil ?_
      refine ⟨(i + 1, _), ?_, fr24.u4.u4.u4.u4.u4.u1.u1, hH40, (congrArg I (by first | rfl | omega)), ?_, ?_, ?_⟩
      ·((try dsimp only); omega)
      ·omega
      ·omega
      ·first | (rw [hr3] at *; exact pass_yes m0 i0 ‹_›) | (rw [hr3] at *; exact pass_not ⟨m0, by omega⟩ i0 ‹_›)
     ·refine AO.read rfl gnone rfl hH32 (sQ sR) (run_ld underlying49 rfl rfl (hH32.cell (i := 0) rfl (relC_up _ (by omega)))) ?_
      refine A1 3 ?_
      refine AO.read rfl gnone rfl hH32 (sQ sR) (run_ld underlying49 rfl rfl (hH32.cell (i := 0) rfl (relC_up _ (by omega)))) ?_
      refine AT 8 rfl (hH32.sub (sQ sR)) (fun w hS => run_orU rfl rfl) ?_
      refine AT 10 rfl (hH32.sub (sQ sR)) (fun w hS => run_indexAddrA underlying55 sizeOf49 rfl rfl (by first | omega | (dsimp only at *; omega))) ?_
      refine A1 11 ?_
      refine AO.set rfl gnone hH32 (j := 0) rfl (sQ sR) (run_st rfl rfl (v := U _) rfl rfl rfl (hH32.blk (i := 0) rfl) (by rw [relC_size]; omega)) ?_
      intro w47 hH48
      simp only [z0, z1] at hH48
      rw [relC_put] at hH48
      refine AD ?_
      refine CW.region ?_
      refine V (run_add e31_24 rfl (by omega)) ?_
      refine V (mV (I _) rfl) ?_
      refine RL.nil ?_
      refine ⟨(i + 1, _), ?_, fr24.u4.u4.u4.u4.u4.u1.u1, hH48, (congrArg I (by first | rfl | omega)), ?_, ?_, ?_⟩
      ·((try dsimp only); omega)
      ·omega
      ·omega
      ·first | (rw [hr3] at *; exact pass_yes m0 i0 ‹_›) | (rw [hr3] at *; exact pass_not ⟨m0, by omega⟩ i0 ‹_›)
    ·refine CW.skip ?_
     refine CW.region ?_
     refine V (run_add e31_24 rfl (by omega)) ?_
     refine V (mV (I _) rfl) ?_
     refine RL.nil ?_
     refine ⟨(i + 1, _), ?_, fr24.u4.u4.u1.u1.u1, hH28, (congrArg I (by first | rfl | omega)), ?_, ?_, ?_⟩
     ·((try dsimp only); omega)
     ·omega
     ·omega
     ·first | (rw [hr3] at *; exact pass_yes m0 i0 ‹_›) | (rw [hr3] at *; exact pass_not ⟨m0, by omega⟩ i0 ‹_›)
   ·refine CW.exit (id := 4) rfl ?_
    refine CW.region ?_
    refine V (run_add e26_24 rfl (by omega)) ?_
    refine V (mV (I _) rfl) ?_
    refine RL.nil ?_
    refine ⟨(m + 1, _), ?_, (((fr21.u4.u1.u1).t fr24 rfl)).u1.u1.u1, hH24, (congrArg I (by first | rfl | omega)), ?_, ?_, ?_⟩
    ·((try dsimp only); omega)
    ·omega
    ·omega
    ·rw [hr3, hr2, show i = pts r by omega]; exact wall_next m0
  ·refine CW.exit (id := 2) rfl ?_
   refine SR ?_
   refine V (run_ldRel underlying57 rfl rfl e3_21 (hH21.blk (i := 0) rfl)) ?_
   refine RL.set hH21 (i := 1) rfl (run_stRel rfl e2_21 rfl (hH21.blk (i := 1) rfl)) ?_
   intro w49 hH50
   simp only [z0, z1] at hH50
   refine RL.nil ?_
   refine CW.ret ?_
   refine outC Tryz.results155 e2_21 hH50 (i := 1) rfl underlying57 rfl rfl ⟨?_, hH50.below⟩
   (rw [hr2, show m = pts r by omega]; rfl)

theorem c_relate_Same (a b : Rl) (w : World) : Calls Tryz.prog 101 #[.agg (relC a), .agg (relC b)] w (Pure (B (decide ((plainR a).eq (plainR b)))) w) := by
 refine enter Tryz.func101 rfl Tryz.ntmps101 rfl ?_
 have hH := Hp.start w
 refine SR ?_
 refine RL.new rfl hH (f := fun b => (.pointer (some ⟨b, 0, none⟩))) (run_box (v := .agg _) rfl) ?_
 intro b3 w1 hH2
 refine RL.new rfl hH2 (f := fun b => (.pointer (some ⟨b, 0, none⟩))) (run_box (v := .agg _) rfl) ?_
 intro b6 w4 hH5
 refine V (aV (B false) rfl) ?_
 refine RL.nil ?_
 refine CW.seq ?_
 refine CW.regionD (by kernel_rfl) hH5 ?_
 intro w7 hH8
 refine AT 0 rfl (hH8.sub sR) (fun w hS => run_ldRel underlying57 rfl rfl rfl (hS.blk (i := 1) rfl)) ?_
 refine AT 2 rfl (hH8.sub sR) (fun w hS => run_ldRel underlying57 rfl rfl rfl (hS.blk (i := 0) rfl)) ?_
 refine A1 1 ?_
 refine AO.callP rfl gnone rfl hH8 sR (c_relate_plain _  _) (run_call1 call130 rfl) ?_
 intro w9 hH10
 refine A1 3 ?_
 refine AO.callP rfl gnone rfl hH10 sR (c_relate_plain _  _) (run_call1 call130 rfl) ?_
 intro w11 hH12
 refine AT 4 rfl (hH12.sub sR) (fun w hS => run_eqlRel relT_fact rfl rfl) ?_
 refine AT 5 rfl (hH12.sub sR) (fun w hS => aV (B _) rfl) ?_
 refine AD ?_
 refine CW.ret ?_
 refine outP1 Tryz.results101 (congrArg B ?_) hH12.below
 rfl

theorem c_relate_Closed (r : Rl) (w : World) : Calls Tryz.prog 131 #[.agg (relC r)] w (Pure (B (decide ((plainR r).eq (cloR r)))) w) := by
 refine enter Tryz.func131 rfl Tryz.ntmps131 rfl ?_
 have hH := Hp.start w
 refine SR ?_
 refine RL.new rfl hH (f := fun b => (.pointer (some ⟨b, 0, none⟩))) (run_box (v := .agg _) rfl) ?_
 intro b3 w1 hH2
 refine V (aV (B false) rfl) ?_
 refine RL.nil ?_
 refine CW.seq ?_
 refine CW.regionD (by kernel_rfl) hH2 ?_
 intro w4 hH5
 refine AT 0 rfl (hH5.sub sR) (fun w hS => run_ldRel underlying57 rfl rfl rfl (hS.blk (i := 0) rfl)) ?_
 refine AT 2 rfl (hH5.sub sR) (fun w hS => run_ldRel underlying57 rfl rfl rfl (hS.blk (i := 0) rfl)) ?_
 refine A1 1 ?_
 refine AO.callP rfl gnone rfl hH5 sR (c_relate_plain _  _) (run_call1 call130 rfl) ?_
 intro w6 hH7
 refine A1 3 ?_
 refine AO.callP rfl gnone rfl hH7 sR (c_relate_Closure _  _) (run_call1 call155 rfl) ?_
 intro w8 hH9
 refine AT 4 rfl (hH9.sub sR) (fun w hS => run_eqlRel relT_fact rfl rfl) ?_
 refine AT 5 rfl (hH9.sub sR) (fun w hS => aV (B _) rfl) ?_
 refine AD ?_
 refine CW.ret ?_
 refine outP1 Tryz.results131 (congrArg B ?_) hH9.below
 rfl

theorem c_relate_New (n : Int) (w : World) : Calls Tryz.prog 106 #[I n] w (Pure (.agg (relC (newR n))) w) := by
 refine enter Tryz.func106 rfl Tryz.ntmps106 rfl ?_
 have hH := Hp.start w
 refine SR ?_
 refine RL.new rfl hH (f := fun b => (.pointer (some ⟨b, 0, none⟩))) (run_alloc zero_rel) ?_
 intro b3 w1 hH2
 refine RL.nil ?_
 refine SR ?_
 refine V (mV (I _) rfl) ?_
 refine V (run_bld (vs := [(0, I _)]) rfl (built_rel _)) ?_
 refine RL.callP rfl hH2 (c_relate_points _  _) (run_call1 call142 rfl) ?_
 intro w4 hH5
 refine V (run_bld (vs := [(0, I _)]) rfl (built_rel _)) ?_
 refine RL.set hH5 (i := 0) rfl (run_stRel rfl rfl rfl (hH5.blk (i := 0) rfl)) ?_
 intro w6 hH7
 simp only [z0, z1] at hH7
 refine RL.nil ?_
 refine CW.ret ?_
 refine outC Tryz.results106 rfl hH7 (i := 0) rfl underlying57 rfl rfl ⟨?_, hH7.below⟩
 rfl

theorem c_relate_mutual (r : Rl) (i : Int) (w : World) (hT : Tab w) : Calls Tryz.prog 156 #[.agg (relC r), I i] w (Pure (U (mutualR r i)) w) := by
 refine enter Tryz.func156 rfl Tryz.ntmps156 rfl ?_
 have hH := Hp.start w
 refine SR ?_
 refine RL.new rfl hH (f := fun b => (.pointer (some ⟨b, 0, none⟩))) (run_box (v := .agg _) rfl) ?_
 intro b3 w1 hH2
 refine V (aV (U 0#64) rfl) ?_
 refine RL.nil ?_
 refine SR ?_
 refine V (mV (I _) rfl) ?_
 refine RL.new rfl hH2 (f := fun b => (.slice (some ⟨b, 0, none⟩) 1 1)) (run_mkL underlying111 rfl rfl (sz := 1) (vs := [I _]) rfl rfl (by decide) (by decide) rfl rfl) ?_
 intro b6 w4 hH5
 (try simp only [List.flatMap_cons, List.flatMap_nil, clI, clB, clS, clP, clL, clA, List.append_nil, List.cons_append, List.nil_append] at hH5)
 refine RL.callP rfl hH5 (c_mask_Of _ [i] _ (hH5.slBlk (i := 0) (n := 1) (sz := 1) rfl rfl (by decide))) (run_call1 call139 rfl) ?_
 intro w7 hH8
 refine V (aV (U _) rfl) ?_
 refine RL.nil ?_
 refine CW.seq ?_
 refine CW.regionD (by kernel_rfl) hH8 ?_
 intro w9 hH10
 refine AT 0 rfl (hH10.sub sR) (fun w hS => run_ldRel underlying57 rfl rfl rfl (hS.blk (i := 1) rfl)) ?_
 refine AT 1 rfl (hH10.sub sR) (fun w hS => mV (U _) rfl) ?_
 refine AT 3 rfl (hH10.sub sR) (fun w hS => run_ldRel underlying57 rfl rfl rfl (hS.blk (i := 1) rfl)) ?_
 refine AT 4 rfl (hH10.sub sR) (fun w hS => mV (U _) rfl) ?_
 refine A1 2 ?_
 refine AO.callP rfl gnone rfl hH10 sR (c_relate_Up _ _  _ (hT.hp hH10)) (run_call2 call138 rfl rfl) ?_
 intro w11 hH12
 refine A1 5 ?_
 refine AO.callP rfl gnone rfl hH12 sR (c_relate_Down _ _  _) (run_call2 call140 rfl rfl) ?_
 intro w13 hH14
 refine AT 6 rfl (hH14.sub sR) (fun w hS => run_andU rfl rfl) ?_
 refine AT 7 rfl (hH14.sub sR) (fun w hS => aV (U _) rfl) ?_
 refine AD ?_
 refine CW.ret ?_
 refine outP1 Tryz.results156 (congrArg U ?_) hH14.below
 rfl

theorem c_relate_Order (r : Rl) (w : World) (hT : Tab w) : Calls Tryz.prog 132 #[.agg (relC r)] w (Pure (B (orderB r)) w) := by
 have hp := pts_bd r
 refine enter Tryz.func132 rfl Tryz.ntmps132 rfl ?_
 have hH := Hp.start w
 refine SR ?_
 refine RL.new rfl hH (f := fun b => (.pointer (some ⟨b, 0, none⟩))) (run_box (v := .agg _) rfl) ?_
 intro b3 w1 hH2
 refine V (aV (B false) rfl) ?_
 refine RL.nil ?_
 refine CW.seq ?_
 refine SR ?_
 refine V (run_ldRel underlying57 rfl rfl rfl (hH2.blk (i := 0) rfl)) ?_
 refine RL.callP rfl hH2 (c_relate_Closed _  _) (run_call1 call131 rfl) ?_
 intro w4 hH5
 refine V (run_notP rfl) ?_
 refine RL.nil ?_
 refine CW.condP rfl (fun h9 => ?_) (fun h9 => ?_)
 ·refine SR ?_
  refine V (aV (B false) rfl) ?_
  refine RL.nil ?_
  refine CW.ret ?_
  refine outP1 Tryz.results132 (congrArg B ?_) hH5.below
  exact (order_no0 ‹_›).symm
 ·refine CW.skip ?_
  refine CW.seq ?_
  refine SR ?_
  refine V (run_ldRel underlying57 rfl rfl rfl (hH5.blk (i := 0) rfl)) ?_
  refine RL.callP rfl hH5 (c_relate_points _  _) (run_call1 call142 rfl) ?_
  intro w10 hH11
  refine V (mV (I 0) rfl) ?_
  refine RL.nil ?_
  refine CW.block ?_
  have hc := Decidable.of_not_not ‹¬ ¬ (plainR r).eq (cloR r)›
  refine CW.loop (G := (Int)) (fun (k : Int) s' w' => (Fr [2, 3, 9, 10, 11, 12, 13, 14, 15, 16, 17, 18, 19] _ s') ∧ (Hp w w' _) ∧ (s' 9 = I k) ∧ (0 ≤ k) ∧ (k ≤ pts r) ∧ (∀ j : Int, 0 ≤ j → j < k → mutualR r j = ofl [j])) (fun (k : Int) => (pts r - k).toNat) (0) ⟨Fr.refl _ _, hH11, rfl, (by omega), (by omega), fun j a b => absurd b (by omega)⟩ ?_
  rintro k sg12 w12 ⟨fr12, hH12, e9_12, h0, hk, hf⟩
  have e1_12 : sg12 1 = Pn _ _ := (fr12 1 rfl).trans rfl
  have e8_12 : sg12 8 = I _ := (fr12 8 rfl).trans rfl
  refine SR ?_
  refine V (run_lss e9_12 e8_12) ?_
  refine RL.nil ?_
  refine CW.seq ?_
  refine CW.condP rfl (fun h14 => ?_) (fun h14 => ?_)
  ·refine CW.skip ?_
   refine CW.seq ?_
   refine CW.block ?_
   refine SR ?_
   refine V (run_move e9_12) ?_
   refine V (aV (I _) rfl) ?_
   refine RL.nil ?_
   refine SR ?_
   refine V (run_ldRel underlying57 rfl rfl e1_12 (hH12.blk (i := 0) rfl)) ?_
   refine V (mV (I _) rfl) ?_
   refine RL.callP rfl hH12 (c_relate_mutual _ _  _ (hT.hp hH12)) (run_call2 call156 rfl rfl) ?_
   intro w15 hH16
   refine V (mV (I _) rfl) ?_
   refine RL.new rfl hH16 (f := fun b => (.slice (some ⟨b, 0, none⟩) 1 1)) (run_mkL underlying111 rfl rfl (sz := 1) (vs := [I _]) rfl rfl (by decide) (by decide) rfl rfl) ?_
   intro b19 w17 hH18
   (try simp only [List.flatMap_cons, List.flatMap_nil, clI, clB, clS, clP, clL, clA, List.append_nil, List.cons_append, List.nil_append] at hH18)
   refine RL.callP rfl hH18 (c_mask_Of _ [k] _ (hH18.slBlk (i := 0) (n := 1) (sz := 1) rfl rfl (by decide))) (run_call1 call139 rfl) ?_
   intro w20 hH21
   refine V (run_neqU rfl rfl) ?_
   refine RL.nil ?_
   refine CW.condP rfl (fun h23 => ?_) (fun h23 => ?_)
   ·refine SR ?_
    refine V (aV (B false) rfl) ?_
    refine RL.nil ?_
    refine CW.ret ?_
    refine outP1 Tryz.results132 (congrArg B ?_) hH21.below
    exact (order_no hc ⟨h0, by omega⟩ ‹_›).symm
   ·refine CW.skip ?_
    refine CW.region ?_
    refine V (run_add e9_12 rfl (by omega)) ?_
    refine V (mV (I _) rfl) ?_
    refine RL.nil ?_
    refine ⟨k + 1, ?_, fr12.u4.u4.u4, (hH21.sub (sQ sR)), (congrArg I (by first | rfl | omega)), ?_, ?_, ?_⟩
    ·((try dsimp only); omega)
    ·omega
    ·omega
    ·exact fun j a b => if e : j = k then e ▸ Decidable.of_not_not ‹_› else hf j a (by omega)
  ·refine CW.exit (id := 0) rfl ?_
   refine SR ?_
   refine V (aV (B true) rfl) ?_
   refine RL.nil ?_
   refine CW.ret ?_
   refine outP1 Tryz.results132 (congrArg B ?_) hH12.below
   exact (order_yes hc fun j a b => hf j a (by omega)).symm

theorem c_hasse_in (r : Rl) (i : Int) (w : World) : Calls Tryz.prog 144 #[.agg (relC r), I i] w (Pure (B (isP r i)) w) := by
 have hp := pts_bd r
 have hnn : (newR r.n).n = pts r := rfl
 refine enter Tryz.func144 rfl Tryz.ntmps144 rfl ?_
 have hH := Hp.start w
 refine SR ?_
 refine RL.new rfl hH (f := fun b => (.pointer (some ⟨b, 0, none⟩))) (run_box (v := .agg _) rfl) ?_
 intro b3 w1 hH2
 refine V (aV (B false) rfl) ?_
 refine RL.nil ?_
 refine SR ?_
 refine V (mV (I _) rfl) ?_
 refine V (run_geq rfl rfl) ?_
 refine V (mV (B _) rfl) ?_
 refine RL.splitP (dj := 7) rfl (fun h5 => ?_) (fun h5 => ?_)
 ·refine RL.gT rfl (bT h5) ?_
  refine V (mV (I _) rfl) ?_
  refine RL.gT rfl (bT h5) ?_
  refine V (fA underlying57 0 rfl sizeOf3 rfl) ?_
  refine RL.gT rfl (bT h5) ?_
  refine V (run_ld underlying3 rfl rfl (hH2.cell (i := 0) rfl (relC_N _))) ?_
  refine RL.gT rfl (bT h5) ?_
  refine RL.callP rfl hH2 (c_relate_New _  _) (run_call1 call106 rfl) ?_
  intro w6 hH7
  refine RL.gT rfl (bT h5) ?_
  refine V (run_field underlying57 rfl isAgg3 rfl (relC_N _)) ?_
  refine RL.gT rfl (bT h5) ?_
  refine V (run_lss rfl rfl) ?_
  refine V (run_pickT (bT h5) (v := B _) rfl) ?_
  refine V (aV (B _) rfl) ?_
  refine RL.nil ?_
  refine CW.ret ?_
  refine outP1 Tryz.results144 (congrArg B ?_) hH7.below
  (rw [isP, Bool.eq_iff_iff]; simp only [decide_eq_true_eq, Bool.false_eq_true, false_iff]; omega)
 ·refine RL.gF rfl rfl (bF h5) rfl ?_
  refine RL.gF rfl rfl (bF h5) rfl ?_
  refine RL.gF rfl rfl (bF h5) rfl ?_
  refine RL.gF rfl rfl (bF h5) rfl ?_
  refine RL.gF rfl rfl (bF h5) rfl ?_
  refine RL.gF rfl rfl (bF h5) rfl ?_
  refine V (run_pickF (bF h5) (v := B false) rfl) ?_
  refine V (aV (B _) rfl) ?_
  refine RL.nil ?_
  refine CW.ret ?_
  refine outP1 Tryz.results144 (congrArg B ?_) hH2.below
  (rw [isP, Bool.eq_iff_iff]; simp only [decide_eq_true_eq, Bool.false_eq_true, false_iff]; omega)

theorem c_hasse_above (r : Rl) (i : Int) (w : World) (hT : Tab w) : Calls Tryz.prog 110 #[.agg (relC r), I i] w (Pure (U (aboveR r i)) w) := by
 refine enter Tryz.func110 rfl Tryz.ntmps110 rfl ?_
 have hH := Hp.start w
 refine SR ?_
 refine RL.new rfl hH (f := fun b => (.pointer (some ⟨b, 0, none⟩))) (run_box (v := .agg _) rfl) ?_
 intro b3 w1 hH2
 refine V (aV (U 0#64) rfl) ?_
 refine RL.nil ?_
 refine CW.seq ?_
 refine CW.regionD (by kernel_rfl) hH2 ?_
 intro w4 hH5
 refine AT 0 rfl (hH5.sub sR) (fun w hS => run_ldRel underlying57 rfl rfl rfl (hS.blk (i := 0) rfl)) ?_
 refine AT 1 rfl (hH5.sub sR) (fun w hS => mV (I _) rfl) ?_
 refine A1 2 ?_
 refine AO.new rfl gnone rfl hH5 sR (f := fun b => .slice (some ⟨b, 0, none⟩) 1 1) (run_mkL underlying111 rfl rfl (sz := 1) (vs := [I _]) rfl rfl (by decide) (by decide) rfl rfl) ?_
 intro b8 w6 hH7
 (try simp only [List.flatMap_cons, List.flatMap_nil, clI, clB, clS, clP, clL, clA, List.append_nil, List.cons_append, List.nil_append] at hH7)
 refine A1 3 ?_
 refine AO.callP rfl gnone rfl hH7 (sQ sR) (c_mask_Of _ [i] _ (hH7.slBlk (i := 0) (n := 1) (sz := 1) rfl rfl (by decide))) (run_call1 call139 rfl) ?_
 intro w9 hH10
 refine A1 4 ?_
 refine AO.callP rfl gnone rfl hH10 (sQ sR) (c_relate_Up _ _  _ (hT.hp hH10)) (run_call2 call138 rfl rfl) ?_
 intro w11 hH12
 refine AT 5 rfl (hH12.sub (sQ sR)) (fun w hS => aV (U _) rfl) ?_
 refine AD ?_
 refine CW.ret ?_
 refine outP1 Tryz.results110 (congrArg U ?_) hH12.below
 rfl

theorem c_hasse_below (r : Rl) (i : Int) (w : World) (hT : Tab w) : Calls Tryz.prog 111 #[.agg (relC r), I i] w (Pure (U (belowR r i)) w) := by
 refine enter Tryz.func111 rfl Tryz.ntmps111 rfl ?_
 have hH := Hp.start w
 refine SR ?_
 refine RL.new rfl hH (f := fun b => (.pointer (some ⟨b, 0, none⟩))) (run_box (v := .agg _) rfl) ?_
 intro b3 w1 hH2
 refine V (aV (U 0#64) rfl) ?_
 refine RL.nil ?_
 refine CW.seq ?_
 refine SR ?_
 refine V (run_ldRel underlying57 rfl rfl rfl (hH2.blk (i := 0) rfl)) ?_
 refine V (mV (I _) rfl) ?_
 refine RL.callP rfl hH2 (c_hasse_in _ _  _) (run_call2 call144 rfl rfl) ?_
 intro w4 hH5
 refine V (run_not rfl) ?_
 refine RL.nil ?_
 refine CW.cond rfl (fun h8 => ?_) (fun h8 => ?_)
 ·refine SR ?_
  refine V (aV (U 0#64) rfl) ?_
  refine RL.nil ?_
  refine CW.ret ?_
  refine outP1 Tryz.results111 (congrArg U ?_) hH5.below
  first | rw [belowR, if_neg (by simpa using ‹(!isP r i) = true›)] | rw [belowR, if_pos (by simpa using ‹(!isP r i) = false›)]
 ·refine CW.skip ?_
  refine CW.seq ?_
  refine CW.regionD (by kernel_rfl) hH5 ?_
  intro w9 hH10
  refine AT 0 rfl (hH10.sub sR) (fun w hS => run_ldRel underlying57 rfl rfl rfl (hS.blk (i := 0) rfl)) ?_
  refine AT 1 rfl (hH10.sub sR) (fun w hS => mV (I _) rfl) ?_
  refine A1 2 ?_
  refine AO.new rfl gnone rfl hH10 sR (f := fun b => .slice (some ⟨b, 0, none⟩) 1 1) (run_mkL underlying111 rfl rfl (sz := 1) (vs := [I _]) rfl rfl (by decide) (by decide) rfl rfl) ?_
  intro b13 w11 hH12
  (try simp only [List.flatMap_cons, List.flatMap_nil, clI, clB, clS, clP, clL, clA, List.append_nil, List.cons_append, List.nil_append] at hH12)
  refine A1 3 ?_
  refine AO.callP rfl gnone rfl hH12 (sQ sR) (c_mask_Of _ [i] _ (hH12.slBlk (i := 0) (n := 1) (sz := 1) rfl rfl (by decide))) (run_call1 call139 rfl) ?_
  intro w14 hH15
  refine A1 4 ?_
  refine AO.callP rfl gnone rfl hH15 (sQ sR) (c_relate_Down _ _  _) (run_call2 call140 rfl rfl) ?_
  intro w16 hH17
  refine AT 5 rfl (hH17.sub (sQ sR)) (fun w hS => aV (U _) rfl) ?_
  refine AD ?_
  refine CW.ret ?_
  refine outP1 Tryz.results111 (congrArg U ?_) hH17.below
  first | rw [belowR, if_neg (by simpa using ‹(!isP r i) = true›)] | rw [belowR, if_pos (by simpa using ‹(!isP r i) = false›)]

theorem c_hasse_nearest (r : Rl) (i j : Int) (f : FuncId) (gg : Int → BitVec 64) (w : World) (hf : ∀ args w, (callFunc f args).run Tryz.prog w = .ok (.enter f args) w) (go : ∀ i w, Tab w → Calls Tryz.prog f #[.agg (relC r), I i] w (Pure (U (gg i)) w)) (hn : ∀ u, hasB (gg i &&& gg j) u = true → u < pts r) (hT : Tab w) : Calls Tryz.prog 157 #[.agg (relC r), I i, I j, .func (.func f) #[] #[]] w (Pure (.tuple #[I (nearV gg (pts r) i j).1, B (nearV gg (pts r) i j).2]) w) := by
 have hl := lst_len (gg i &&& gg j)
 refine enter Tryz.func157 rfl Tryz.ntmps157 rfl ?_
 have hH := Hp.start w
 refine SR ?_
 refine RL.new rfl hH (f := fun b => (.pointer (some ⟨b, 0, none⟩))) (run_box (v := .agg _) rfl) ?_
 intro b3 w1 hH2
 refine V (aV (I 0) rfl) ?_
 refine V (aV (B false) rfl) ?_
 refine RL.nil ?_
 refine CW.seq ?_
 refine CW.regionD (by kernel_rfl) hH2 ?_
 intro w4 hH5
 refine AT 0 rfl (hH5.sub sR) (fun w hS => mV (.func _ _ _) rfl) ?_
 refine AT 1 rfl (hH5.sub sR) (fun w hS => run_ldRel underlying57 rfl rfl rfl (hS.blk (i := 0) rfl)) ?_
 refine AT 2 rfl (hH5.sub sR) (fun w hS => mV (I _) rfl) ?_
 refine AT 4 rfl (hH5.sub sR) (fun w hS => mV (.func _ _ _) rfl) ?_
 refine AT 5 rfl (hH5.sub sR) (fun w hS => run_ldRel underlying57 rfl rfl rfl (hS.blk (i := 0) rfl)) ?_
 refine AT 6 rfl (hH5.sub sR) (fun w hS => mV (I _) rfl) ?_
 refine A1 3 ?_
 refine AO.callP rfl gnone rfl hH5 sR (go _ _ (hT.hp hH5)) (run_callC2 hf (cs := []) rfl rfl rfl) ?_
 intro w6 hH7
 refine A1 7 ?_
 refine AO.callP rfl gnone rfl hH7 sR (go _ _ (hT.hp hH7)) (run_callC2 hf (cs := []) rfl rfl rfl) ?_
 intro w8 hH9
 refine AT 8 rfl (hH9.sub sR) (fun w hS => run_andU rfl rfl) ?_
 refine AT 9 rfl (hH9.sub sR) (fun w hS => aV (U _) rfl) ?_
 refine AD ?_
 refine CW.seq ?_
 refine SR ?_
 refine V (mV (U _) rfl) ?_
 refine RL.callR rfl hH9 (c_mask_List _  _ (hT.hp hH9)) (run_call1 call120 rfl) ?_
 intro v12 w10 hH11
 refine V (run_lenSl (hH11.sl (i := 0) rfl) rfl underlying111 rfl) ?_
 refine V (mV (I 0) rfl) ?_
 refine RL.nil ?_
 refine CW.block ?_
 refine CW.loop (G := (Int)) (fun (a : Int) s' w' => (Fr [8, 9, 12, 25, 26, 27, 28, 29, 30, 31, 32, 33, 34, 35, 36] _ s') ∧ (Hp w w' _) ∧ (s' 25 = I a) ∧ (0 ≤ a) ∧ (a ≤ (lst (gg i &&& gg j)).length) ∧ (∀ b : Int, 0 ≤ b → b < a → subB (gg i &&& gg j) (gg ((lst (gg i &&& gg j)).getD b.toNat 0)) = false)) (fun (a : Int) => ((lst (gg i &&& gg j)).length - a).toNat) (0) ⟨Fr.refl _ _, hH11, rfl, (by omega), (by omega), fun b x y => absurd y (by omega)⟩ ?_
 rintro a sg13 w13 ⟨fr13, hH13, e25_13, a0, a1, hg⟩
 have e3_13 : sg13 3 = .func _ _ _ := (fr13 3 rfl).trans rfl
 have e4_13 : sg13 4 = Pn _ _ := (fr13 4 rfl).trans rfl
 have e10_13 : sg13 10 = U _ := (fr13 10 rfl).trans rfl
 have e23_13 := (fr13 23 rfl).trans (by conv => lhs; whnf)
 have e24_13 : sg13 24 = I _ := (fr13 24 rfl).trans rfl
 refine SR ?_
 refine V (run_lss e25_13 e24_13) ?_
 refine RL.nil ?_
 refine CW.seq ?_
 refine CW.condP rfl (fun h15 => ?_) (fun h15 => ?_)
 ·refine CW.skip ?_
  refine CW.seq ?_
  refine CW.block ?_
  refine SR ?_
  refine V (run_indexAddrS (hH13.sl (i := 0) rfl) underlying111 sizeOf3 e23_13 e25_13 (by omega)) ?_
  refine V (run_ld underlying3 rfl rfl ((hH13.sl (i := 0) rfl).cell _ _ (map_at (by omega)))) ?_
  refine V (aV (I _) rfl) ?_
  refine RL.nil ?_
  refine SR ?_
  refine V (run_move e10_13) ?_
  refine V (run_move e3_13) ?_
  refine V (run_ldRel underlying57 rfl rfl e4_13 (hH13.blk (i := 1) rfl)) ?_
  refine V (mV (I _) rfl) ?_
  refine RL.callP rfl hH13 (go _ _ (hT.hp hH13)) (run_callC2 hf (cs := []) rfl rfl rfl) ?_
  intro w16 hH17
  refine RL.callP rfl hH17 (c_mask_Sub _ _  _) (run_call2 call68 rfl rfl) ?_
  intro w18 hH19
  refine RL.nil ?_
  refine CW.cond rfl (fun h21 => ?_) (fun h21 => ?_)
  ·refine SR ?_
   refine V (mV (I _) rfl) ?_
   refine V (aV (I _) rfl) ?_
   refine V (aV (B true) rfl) ?_
   refine RL.nil ?_
   refine CW.ret ?_
   refine outP2 Tryz.results157 (congrArg I ?_) (congrArg B ?_) hH19.below <;> rw [near_yes hn a0 ‹_› ‹_› hg]
  ·refine CW.skip ?_
   refine CW.region ?_
   refine V (run_add e25_13 rfl (by omega)) ?_
   refine V (mV (I _) rfl) ?_
   refine RL.nil ?_
   refine ⟨a + 1, ?_, fr13.u4.u4.u4, hH19, (congrArg I (by first | rfl | omega)), ?_, ?_, ?_⟩
   ·((try dsimp only); omega)
   ·omega
   ·omega
   ·exact fun b x y => if e : b = a then e ▸ ‹_› else hg b x (by omega)
 ·refine CW.exit (id := 0) rfl ?_
  refine SR ?_
  refine V (aV (I 0) rfl) ?_
  refine V (aV (B false) rfl) ?_
  refine RL.nil ?_
  refine CW.ret ?_
  refine outP2 Tryz.results157 (congrArg I ?_) (congrArg B ?_) hH13.below <;> rw [near_no ‹_› hg]

theorem c_hasse_Join (r : Rl) (i j : Int) (w : World) (hT : Tab w) : Calls Tryz.prog 133 #[.agg (relC r), I i, I j] w (Pure (.tuple #[I (joinV r i j).1, B (joinV r i j).2]) w) := by
 refine enter Tryz.func133 rfl Tryz.ntmps133 rfl ?_
 have hH := Hp.start w
 refine SR ?_
 refine RL.new rfl hH (f := fun b => (.pointer (some ⟨b, 0, none⟩))) (run_box (v := .agg _) rfl) ?_
 intro b3 w1 hH2
 refine V (aV (I 0) rfl) ?_
 refine V (aV (B false) rfl) ?_
 refine RL.nil ?_
 refine SR ?_
 refine V (run_ldRel underlying57 rfl rfl rfl (hH2.blk (i := 0) rfl)) ?_
 refine V (mV (I _) rfl) ?_
 refine V (mV (I _) rfl) ?_
 refine RL.callP rfl hH2 (c_hasse_nearest r i j 110 (aboveR r) _ call110 (fun i w h => c_hasse_above r i w h) (fun u h => above_in h) (hT.hp hH2)) (run_call4 call157 rfl rfl rfl rfl) ?_
 intro w4 hH5
 refine V (run_extract rfl (v := I _) rfl) ?_
 refine V (run_extract rfl (v := B _) rfl) ?_
 refine V (aV (I _) rfl) ?_
 refine V (aV (B _) rfl) ?_
 refine RL.nil ?_
 refine CW.ret ?_
 refine outP2 Tryz.results133 (congrArg I ?_) (congrArg B ?_) hH5.below
 all_goals rfl

theorem c_hasse_Meet (r : Rl) (i j : Int) (w : World) (hT : Tab w) : Calls Tryz.prog 134 #[.agg (relC r), I i, I j] w (Pure (.tuple #[I (meetV r i j).1, B (meetV r i j).2]) w) := by
 refine enter Tryz.func134 rfl Tryz.ntmps134 rfl ?_
 have hH := Hp.start w
 refine SR ?_
 refine RL.new rfl hH (f := fun b => (.pointer (some ⟨b, 0, none⟩))) (run_box (v := .agg _) rfl) ?_
 intro b3 w1 hH2
 refine V (aV (I 0) rfl) ?_
 refine V (aV (B false) rfl) ?_
 refine RL.nil ?_
 refine SR ?_
 refine V (run_ldRel underlying57 rfl rfl rfl (hH2.blk (i := 0) rfl)) ?_
 refine V (mV (I _) rfl) ?_
 refine V (mV (I _) rfl) ?_
 refine RL.callP rfl hH2 (c_hasse_nearest r i j 111 (belowR r) _ call111 (fun i w h => c_hasse_below r i w h) (fun u h => below_inR h) (hT.hp hH2)) (run_call4 call157 rfl rfl rfl rfl) ?_
 intro w4 hH5
 refine V (run_extract rfl (v := I _) rfl) ?_
 refine V (run_extract rfl (v := B _) rfl) ?_
 refine V (aV (I _) rfl) ?_
 refine V (aV (B _) rfl) ?_
 refine RL.nil ?_
 refine CW.ret ?_
 refine outP2 Tryz.results134 (congrArg I ?_) (congrArg B ?_) hH5.below
 all_goals rfl

theorem c_hasse_Word (r : Rl) (i : Int) (w : World) (hT : Tab w) : Calls Tryz.prog 85 #[.agg (relC r), I i] w (Pure (U (belowR r i)) w) := by
 refine enter Tryz.func85 rfl Tryz.ntmps85 rfl ?_
 have hH := Hp.start w
 refine SR ?_
 refine RL.new rfl hH (f := fun b => (.pointer (some ⟨b, 0, none⟩))) (run_box (v := .agg _) rfl) ?_
 intro b3 w1 hH2
 refine V (aV (U 0#64) rfl) ?_
 refine RL.nil ?_
 refine SR ?_
 refine V (run_ldRel underlying57 rfl rfl rfl (hH2.blk (i := 0) rfl)) ?_
 refine V (mV (I _) rfl) ?_
 refine RL.callP rfl hH2 (c_hasse_below _ _  _ (hT.hp hH2)) (run_call2 call111 rfl rfl) ?_
 intro w4 hH5
 refine V (aV (U _) rfl) ?_
 refine RL.nil ?_
 refine CW.ret ?_
 refine outP1 Tryz.results85 (congrArg U ?_) hH5.below
 rfl

theorem c_hasse_Point (r : Rl) (s : BitVec 64) (w : World) (hT : Tab w) : Calls Tryz.prog 78 #[.agg (relC r), U s] w (Pure (.tuple #[I (pointV r s).1, B (pointV r s).2]) w) := by
 have hp := pts_bd r
 have hnn : (newR r.n).n = pts r := rfl
 refine enter Tryz.func78 rfl Tryz.ntmps78 rfl ?_
 have hH := Hp.start w
 refine SR ?_
 refine RL.new rfl hH (f := fun b => (.pointer (some ⟨b, 0, none⟩))) (run_box (v := .agg _) rfl) ?_
 intro b3 w1 hH2
 refine V (aV (I 0) rfl) ?_
 refine V (aV (B false) rfl) ?_
 refine RL.nil ?_
 refine CW.seq ?_
 refine SR ?_
 refine V (fA underlying57 0 rfl sizeOf3 rfl) ?_
 refine V (run_ld underlying3 rfl rfl (hH2.cell (i := 0) rfl (relC_N _))) ?_
 refine RL.callP rfl hH2 (c_relate_New _  _) (run_call1 call106 rfl) ?_
 intro w4 hH5
 refine V (run_field underlying57 rfl isAgg3 rfl (relC_N _)) ?_
 refine V (mV (I 0) rfl) ?_
 refine RL.nil ?_
 refine CW.block ?_
 refine CW.loop (G := (Int)) (fun (k : Int) s' w' => (Fr [4, 5, 6, 11, 12, 13, 14, 15, 16, 17, 18, 19, 20] _ s') ∧ (Hp w w' _) ∧ (s' 11 = I k) ∧ (0 ≤ k) ∧ (k ≤ pts r) ∧ (∀ j : Int, 0 ≤ j → j < k → belowR r j ≠ s)) (fun (k : Int) => (pts r - k).toNat) (0) ⟨Fr.refl _ _, hH5, rfl, (by omega), (by omega), fun j x y => absurd y (by omega)⟩ ?_
 rintro k sg6 w6 ⟨fr6, hH6, e11_6, h0, hk, hg⟩
 have e1_6 : sg6 1 = U _ := (fr6 1 rfl).trans rfl
 have e2_6 : sg6 2 = Pn _ _ := (fr6 2 rfl).trans rfl
 have e10_6 : sg6 10 = I _ := (fr6 10 rfl).trans rfl
 refine SR ?_
 refine V (run_lss e11_6 e10_6) ?_
 refine RL.nil ?_
 refine CW.seq ?_
 refine CW.condP rfl (fun h8 => ?_) (fun h8 => ?_)
 ·refine CW.skip ?_
  refine CW.seq ?_
  refine CW.block ?_
  refine SR ?_
  refine V (run_move e11_6) ?_
  refine V (aV (I _) rfl) ?_
  refine RL.nil ?_
  refine SR ?_
  refine V (run_ldRel underlying57 rfl rfl e2_6 (hH6.blk (i := 0) rfl)) ?_
  refine V (mV (I _) rfl) ?_
  refine RL.callP rfl hH6 (c_hasse_Word _ _  _ (hT.hp hH6)) (run_call2 call85 rfl rfl) ?_
  intro w9 hH10
  refine V (run_move e1_6) ?_
  refine V (run_eqlU rfl rfl) ?_
  refine RL.nil ?_
  refine CW.condP rfl (fun h12 => ?_) (fun h12 => ?_)
  ·refine SR ?_
   refine V (mV (I _) rfl) ?_
   refine V (aV (I _) rfl) ?_
   refine V (aV (B true) rfl) ?_
   refine RL.nil ?_
   refine CW.ret ?_
   refine outP2 Tryz.results78 (congrArg I ?_) (congrArg B ?_) hH10.below <;> rw [point_yes h0 (by omega) ‹_› hg]
  ·refine CW.skip ?_
   refine CW.region ?_
   refine V (run_add e11_6 rfl (by omega)) ?_
   refine V (mV (I _) rfl) ?_
   refine RL.nil ?_
   refine ⟨k + 1, ?_, fr6.u4.u4.u1.u1, hH10, (congrArg I (by first | rfl | omega)), ?_, ?_, ?_⟩
   ·((try dsimp only); omega)
   ·omega
   ·omega
   ·exact fun j x y => if e : j = k then e ▸ ‹¬ belowR r k = s› else hg j x (by omega)
 ·refine CW.exit (id := 0) rfl ?_
  refine SR ?_
  refine V (aV (I 0) rfl) ?_
  refine V (aV (B false) rfl) ?_
  refine RL.nil ?_
  refine CW.ret ?_
  refine outP2 Tryz.results78 (congrArg I ?_) (congrArg B ?_) hH6.below <;> rw [point_no (by omega) hg]

theorem c_hasse_end (r : Rl) (f : FuncId) (gg : Int → BitVec 64) (w : World) (hf : ∀ args w, (callFunc f args).run Tryz.prog w = .ok (.enter f args) w) (go : ∀ i w, Tab w → Calls Tryz.prog f #[.agg (relC r), I i] w (Pure (U (gg i)) w)) (hT : Tab w) : Calls Tryz.prog 109 #[.agg (relC r), .func (.func f) #[] #[]] w (Pure (.tuple #[I (endV r gg).1, B (endV r gg).2]) w) := by
 have hp := pts_bd r
 have hnn : (newR r.n).n = pts r := rfl
 refine enter Tryz.func109 rfl Tryz.ntmps109 rfl ?_
 have hH := Hp.start w
 refine SR ?_
 refine RL.new rfl hH (f := fun b => (.pointer (some ⟨b, 0, none⟩))) (run_box (v := .agg _) rfl) ?_
 intro b3 w1 hH2
 refine V (aV (I 0) rfl) ?_
 refine V (aV (B false) rfl) ?_
 refine RL.nil ?_
 refine SR ?_
 refine V (fA underlying57 0 rfl sizeOf3 rfl) ?_
 refine V (run_ld underlying3 rfl rfl (hH2.cell (i := 0) rfl (relC_N _))) ?_
 refine RL.callP rfl hH2 (c_relate_New _  _) (run_call1 call106 rfl) ?_
 intro w4 hH5
 refine V (run_field underlying57 rfl isAgg3 rfl (relC_N _)) ?_
 refine V (aV (I _) rfl) ?_
 refine RL.nil ?_
 refine CW.seq ?_
 refine SR ?_
 refine V (mV (I _) rfl) ?_
 refine V (mV (I 0) rfl) ?_
 refine RL.nil ?_
 refine CW.block ?_
 refine CW.loop (G := (Int)) (fun (k : Int) s' w' => (Fr [4, 5, 7, 13, 14, 15, 16, 17, 18, 19, 20, 21, 22, 23, 24] _ s') ∧ (Hp w w' _) ∧ (s' 13 = I k) ∧ (0 ≤ k) ∧ (k ≤ pts r) ∧ (∀ j : Int, 0 ≤ j → j < k → gg j ≠ below (pts r))) (fun (k : Int) => (pts r - k).toNat) (0) ⟨Fr.refl _ _, hH5, rfl, (by omega), (by omega), fun j x y => absurd y (by omega)⟩ ?_
 rintro k sg6 w6 ⟨fr6, hH6, e13_6, h0, hk, hg⟩
 have e1_6 : sg6 1 = .func _ _ _ := (fr6 1 rfl).trans rfl
 have e2_6 : sg6 2 = Pn _ _ := (fr6 2 rfl).trans rfl
 have e6_6 : sg6 6 = I _ := (fr6 6 rfl).trans rfl
 have e12_6 : sg6 12 = I _ := (fr6 12 rfl).trans rfl
 refine SR ?_
 refine V (run_lss e13_6 e12_6) ?_
 refine RL.nil ?_
 refine CW.seq ?_
 refine CW.condP rfl (fun h8 => ?_) (fun h8 => ?_)
 ·refine CW.skip ?_
  refine CW.seq ?_
  refine CW.block ?_
  refine SR ?_
  refine V (run_move e13_6) ?_
  refine V (aV (I _) rfl) ?_
  refine RL.nil ?_
  refine SR ?_
  refine V (run_move e1_6) ?_
  refine V (run_ldRel underlying57 rfl rfl e2_6 (hH6.blk (i := 0) rfl)) ?_
  refine V (mV (I _) rfl) ?_
  refine RL.callP rfl hH6 (go _ _ (hT.hp hH6)) (run_callC2 hf (cs := []) rfl rfl rfl) ?_
  intro w9 hH10
  refine V (run_move e6_6) ?_
  refine RL.callP rfl hH10 (c_mask_Below _  _) (run_call1 call76 rfl) ?_
  intro w11 hH12
  refine V (run_eqlU rfl rfl) ?_
  refine RL.nil ?_
  refine CW.condP rfl (fun h14 => ?_) (fun h14 => ?_)
  ·refine SR ?_
   refine V (mV (I _) rfl) ?_
   refine V (aV (I _) rfl) ?_
   refine V (aV (B true) rfl) ?_
   refine RL.nil ?_
   refine CW.ret ?_
   refine outP2 Tryz.results109 (congrArg I ?_) (congrArg B ?_) hH12.below <;> rw [end_yes h0 (by omega) ‹_› hg]
  ·refine CW.skip ?_
   refine CW.region ?_
   refine V (run_add e13_6 rfl (by omega)) ?_
   refine V (mV (I _) rfl) ?_
   refine RL.nil ?_
   refine ⟨k + 1, ?_, fr6.u4.u4.u4, hH12, (congrArg I (by first | rfl | omega)), ?_, ?_, ?_⟩
   ·((try dsimp only); omega)
   ·omega
   ·omega
   ·exact fun j x y => if e : j = k then e ▸ ‹¬ gg k = below _› else hg j x (by omega)
 ·refine CW.exit (id := 0) rfl ?_
  refine SR ?_
  refine V (aV (I 0) rfl) ?_
  refine V (aV (B false) rfl) ?_
  refine RL.nil ?_
  refine CW.ret ?_
  refine outP2 Tryz.results109 (congrArg I ?_) (congrArg B ?_) hH6.below <;> rw [end_no (by omega) hg]

theorem c_hasse_Bottom (r : Rl) (w : World) (hT : Tab w) : Calls Tryz.prog 84 #[.agg (relC r)] w (Pure (.tuple #[I (endV r (aboveR r)).1, B (endV r (aboveR r)).2]) w) := by
 refine enter Tryz.func84 rfl Tryz.ntmps84 rfl ?_
 have hH := Hp.start w
 refine SR ?_
 refine RL.new rfl hH (f := fun b => (.pointer (some ⟨b, 0, none⟩))) (run_box (v := .agg _) rfl) ?_
 intro b3 w1 hH2
 refine V (aV (I 0) rfl) ?_
 refine V (aV (B false) rfl) ?_
 refine RL.nil ?_
 refine SR ?_
 refine V (run_ldRel underlying57 rfl rfl rfl (hH2.blk (i := 0) rfl)) ?_
 refine RL.callP rfl hH2 (c_hasse_end r 110 (aboveR r) _ call110 (fun i w h => c_hasse_above r i w h) (hT.hp hH2)) (run_call2 call109 rfl rfl) ?_
 intro w4 hH5
 refine V (run_extract rfl (v := I _) rfl) ?_
 refine V (run_extract rfl (v := B _) rfl) ?_
 refine V (aV (I _) rfl) ?_
 refine V (aV (B _) rfl) ?_
 refine RL.nil ?_
 refine CW.ret ?_
 refine outP2 Tryz.results84 (congrArg I ?_) (congrArg B ?_) hH5.below
 all_goals rfl

theorem c_hasse_Lattice (r : Rl) (w : World) (hT : Tab w) : Calls Tryz.prog 103 #[.agg (relC r)] w (Pure (B (latB r)) w) := by
 have hp := pts_bd r
 refine enter Tryz.func103 rfl Tryz.ntmps103 rfl ?_
 have hH := Hp.start w
 refine SR ?_
 refine RL.new rfl hH (f := fun b => (.pointer (some ⟨b, 0, none⟩))) (run_box (v := .agg _) rfl) ?_
 intro b3 w1 hH2
 refine V (aV (B false) rfl) ?_
 refine RL.nil ?_
 refine CW.seq ?_
 refine SR ?_
 refine V (fA underlying57 0 rfl sizeOf3 rfl) ?_
 refine V (run_ld underlying3 rfl rfl (hH2.cell (i := 0) rfl (relC_N _))) ?_
 refine V (run_lss rfl rfl) ?_
 refine V (mV (B _) rfl) ?_
 refine RL.splitP (dj := 12) rfl (fun h5 => ?_) (fun h5 => ?_)
 ·refine RL.gF rfl rfl (bT h5) rfl ?_
  refine RL.gF rfl rfl (bT h5) rfl ?_
  refine RL.gF rfl rfl (bT h5) rfl ?_
  refine V (run_pickT (bT h5) (v := B true) rfl) ?_
  refine V (mV (B _) rfl) ?_
  refine RL.gF rfl rfl rfl rfl ?_
  refine RL.gF rfl rfl rfl rfl ?_
  refine RL.gF rfl rfl rfl rfl ?_
  refine V (run_pickT rfl (v := B true) rfl) ?_
  refine RL.nil ?_
  refine CW.condT rfl ?_
  refine SR ?_
  refine V (aV (B false) rfl) ?_
  refine RL.nil ?_
  refine CW.ret ?_
  refine outP1 Tryz.results103 (congrArg B ?_) hH2.below
  first | exact (lat_no1 (by omega)).symm | exact (lat_no2 (nt ‹_›)).symm | exact (lat_no3 ‹i < r.n› j0 ‹j < i› (by rw [bothB, nt ‹(!(joinV r i j).2) = true›]; rfl)).symm | exact (lat_no3 ‹i < r.n› j0 ‹j < i› (by rw [bothB, nt ‹(!(meetV r i j).2) = true›]; simp)).symm | exact (lat_yes hn ho ‹_› hg).symm
 ·refine RL.gT rfl (bF h5) ?_
  refine V (fA underlying57 0 rfl sizeOf3 rfl) ?_
  refine RL.gT rfl (bF h5) ?_
  refine V (run_ld underlying3 rfl rfl (hH2.cell (i := 0) rfl (relC_N _))) ?_
  refine RL.gT rfl (bF h5) ?_
  refine V (run_gtr rfl rfl) ?_
  refine V (run_pickF (bF h5) (v := B _) rfl) ?_
  refine V (mV (B _) rfl) ?_
  refine RL.splitP (dj := 17) rfl (fun h7 => ?_) (fun h7 => ?_)
  ·refine RL.gF rfl rfl (bT h7) rfl ?_
   refine RL.gF rfl rfl (bT h7) rfl ?_
   refine RL.gF rfl rfl (bT h7) rfl ?_
   refine V (run_pickT (bT h7) (v := B true) rfl) ?_
   refine RL.nil ?_
   refine CW.condT rfl ?_
   refine SR ?_
   refine V (aV (B false) rfl) ?_
   refine RL.nil ?_
   refine CW.ret ?_
   refine outP1 Tryz.results103 (congrArg B ?_) hH2.below
   first | exact (lat_no1 (by omega)).symm | exact (lat_no2 (nt ‹_›)).symm | exact (lat_no3 ‹i < r.n› j0 ‹j < i› (by rw [bothB, nt ‹(!(joinV r i j).2) = true›]; rfl)).symm | exact (lat_no3 ‹i < r.n› j0 ‹j < i› (by rw [bothB, nt ‹(!(meetV r i j).2) = true›]; simp)).symm | exact (lat_yes hn ho ‹_› hg).symm
  ·refine RL.gT rfl (bF h7) ?_
   refine V (run_ldRel underlying57 rfl rfl rfl (hH2.blk (i := 0) rfl)) ?_
   refine RL.gT rfl (bF h7) ?_
   refine RL.callP rfl hH2 (c_relate_Order _  _ (hT.hp hH2)) (run_call1 call132 rfl) ?_
   intro w8 hH9
   refine RL.gT rfl (bF h7) ?_
   refine V (run_not rfl) ?_
   refine V (run_pickF (bF h7) (v := B _) rfl) ?_
   refine RL.nil ?_
   refine CW.cond rfl (fun h12 => ?_) (fun h12 => ?_)
   ·refine SR ?_
    refine V (aV (B false) rfl) ?_
    refine RL.nil ?_
    refine CW.ret ?_
    refine outP1 Tryz.results103 (congrArg B ?_) hH9.below
    first | exact (lat_no1 (by omega)).symm | exact (lat_no2 (nt ‹_›)).symm | exact (lat_no3 ‹i < r.n› j0 ‹j < i› (by rw [bothB, nt ‹(!(joinV r i j).2) = true›]; rfl)).symm | exact (lat_no3 ‹i < r.n› j0 ‹j < i› (by rw [bothB, nt ‹(!(meetV r i j).2) = true›]; simp)).symm | exact (lat_yes hn ho ‹_› hg).symm
   ·refine CW.skip ?_
    refine CW.seq ?_
    refine SR ?_
    refine V (fA underlying57 0 rfl sizeOf3 rfl) ?_
    refine V (run_ld underlying3 rfl rfl (hH9.cell (i := 0) rfl (relC_N _))) ?_
    refine V (mV (I 0) rfl) ?_
    refine RL.nil ?_
    refine CW.block ?_
    have hn : 1 ≤ r.n ∧ r.n ≤ 64 := by omega
    have ho : orderB r = true := nf ‹_›
    refine CW.loop (G := (Int)) (fun (i : Int) s' w' => (Fr [2, 3, 4, 5, 6, 7, 8, 24, 25, 26, 27, 28, 29, 30, 31, 32, 33, 34, 35, 36, 37, 38, 39, 40, 41, 42, 43, 44, 45, 46, 47, 48, 49, 50, 51, 52] _ s') ∧ (Hp w w' _) ∧ (s' 24 = I i) ∧ (0 ≤ i) ∧ (i ≤ r.n) ∧ (∀ a b : Int, 0 ≤ b → b < a → a < i → bothB r a b = true)) (fun (i : Int) => (r.n - i).toNat) (0) ⟨Fr.refl _ _, hH9, rfl, (by omega), (by omega), fun a b x y z => absurd z (by omega)⟩ ?_
    rintro i sg13 w13 ⟨fr13, hH13, e24_13, i0, i1, hg⟩
    have e1_13 : sg13 1 = Pn _ _ := (fr13 1 rfl).trans rfl
    have e23_13 : sg13 23 = I _ := (fr13 23 rfl).trans rfl
    refine SR ?_
    refine V (run_lss e24_13 e23_13) ?_
    refine RL.nil ?_
    refine CW.seq ?_
    refine CW.condP rfl (fun h15 => ?_) (fun h15 => ?_)
    ·refine CW.skip ?_
     refine CW.seq ?_
     refine CW.block ?_
     refine SR ?_
     refine V (run_move e24_13) ?_
     refine V (aV (I _) rfl) ?_
     refine RL.nil ?_
     refine SR ?_
     refine V (mV (I _) rfl) ?_
     refine V (mV (I 0) rfl) ?_
     refine RL.nil ?_
     refine CW.block ?_
     refine CW.loop (G := (Int)) (fun (j : Int) s' w' => (Fr [2, 4, 5, 6, 7, 8, 28, 29, 30, 31, 32, 33, 34, 35, 36, 37, 38, 39, 40, 41, 42, 43, 44, 45, 46, 47, 48, 49, 50, 51] _ s') ∧ (Hp w w' _) ∧ (s' 28 = I j) ∧ (0 ≤ j) ∧ (j ≤ i) ∧ (∀ b : Int, 0 ≤ b → b < j → bothB r i b = true)) (fun (j : Int) => (i - j).toNat) (0) ⟨Fr.refl _ _, hH13, rfl, (by omega), (by omega), fun b x y => absurd y (by omega)⟩ ?_
     rintro j sg16 w16 ⟨fr16, hH16, e28_16, j0, j1, hh⟩
     have e1_16 := (fr16 1 rfl).trans e1_13
     have e3_16 : sg16 3 = I _ := (fr16 3 rfl).trans rfl
     have e23_16 := (fr16 23 rfl).trans e23_13
     have e24_16 := (fr16 24 rfl).trans e24_13
     have e25_16 : sg16 25 = B _ := (fr16 25 rfl).trans rfl
     have e26_16 : sg16 26 = I _ := (fr16 26 rfl).trans rfl
     have e27_16 : sg16 27 = I _ := (fr16 27 rfl).trans rfl
     refine SR ?_
     refine V (run_lss e28_16 e27_16) ?_
     refine RL.nil ?_
     refine CW.seq ?_
     refine CW.condP rfl (fun h18 => ?_) (fun h18 => ?_)
     ·refine CW.skip ?_
      refine CW.seq ?_
      refine CW.block ?_
      refine SR ?_
      refine V (run_move e28_16) ?_
      refine V (aV (I _) rfl) ?_
      refine RL.nil ?_
      refine SR ?_
      refine V (run_ldRel underlying57 rfl rfl e1_16 (hH16.blk (i := 0) rfl)) ?_
      refine V (run_move e3_16) ?_
      refine V (mV (I _) rfl) ?_
      refine RL.callP rfl hH16 (c_hasse_Join _ _ _  _ (hT.hp hH16)) (run_call3 call133 rfl rfl rfl) ?_
      intro w19 hH20
      refine V (run_move (by conv => lhs; whnf)) ?_
      refine V (run_extract rfl (v := I _) rfl) ?_
      refine V (run_extract rfl (v := B _) rfl) ?_
      refine V (aV (I _) rfl) ?_
      refine V (aV (B _) rfl) ?_
      refine RL.nil ?_
      refine SR ?_
      refine V (run_ldRel underlying57 rfl rfl e1_16 (hH20.blk (i := 0) rfl)) ?_
      refine V (run_move e3_16) ?_
      refine V (mV (I _) rfl) ?_
      refine RL.callP rfl hH20 (c_hasse_Meet _ _ _  _ (hT.hp hH20)) (run_call3 call134 rfl rfl rfl) ?_
      intro w22 hH23
      refine V (run_move (by conv => lhs; whnf)) ?_
      refine V (run_extract rfl (v := I _) rfl) ?_
      refine V (run_extract rfl (v := B _) rfl) ?_
      refine V (aV (I _) rfl) ?_
      refine V (aV (B _) rfl) ?_
      refine RL.nil ?_
      refine SR ?_
      refine V (mV (B _) rfl) ?_
      refine V (run_not rfl) ?_
      refine V (mV (B _) rfl) ?_
      refine RL.split (dj := 47) rfl (fun h26 => ?_) (fun h26 => ?_)
      ·refine RL.gF rfl rfl (bR (c := true) h26) rfl ?_
       refine RL.gF rfl rfl (bR (c := true) h26) rfl ?_
       refine V (run_pickT (bR (c := true) h26) (v := B true) rfl) ?_
       refine RL.nil ?_
       refine CW.condT rfl ?_
       refine SR ?_
       refine V (aV (B false) rfl) ?_
       refine RL.nil ?_
       refine CW.ret ?_
       refine outP1 Tryz.results103 (congrArg B ?_) hH23.below
       first | exact (lat_no1 (by omega)).symm | exact (lat_no2 (nt ‹_›)).symm | exact (lat_no3 ‹i < r.n› j0 ‹j < i› (by rw [bothB, nt ‹(!(joinV r i j).2) = true›]; rfl)).symm | exact (lat_no3 ‹i < r.n› j0 ‹j < i› (by rw [bothB, nt ‹(!(meetV r i j).2) = true›]; simp)).symm | exact (lat_yes hn ho ‹_› hg).symm
      ·refine RL.gT rfl (bR (c := false) h26) ?_
       refine V (mV (B _) rfl) ?_
       refine RL.gT rfl (bR (c := false) h26) ?_
       refine V (run_not rfl) ?_
       refine V (run_pickF (bR (c := false) h26) (v := B _) rfl) ?_
       refine RL.nil ?_
       refine CW.cond rfl (fun h28 => ?_) (fun h28 => ?_)
       ·refine SR ?_
        refine V (aV (B false) rfl) ?_
        refine RL.nil ?_
        refine CW.ret ?_
        refine outP1 Tryz.results103 (congrArg B ?_) hH23.below
        first | exact (lat_no1 (by omega)).symm | exact (lat_no2 (nt ‹_›)).symm | exact (lat_no3 ‹i < r.n› j0 ‹j < i› (by rw [bothB, nt ‹(!(joinV r i j).2) = true›]; rfl)).symm | exact (lat_no3 ‹i < r.n› j0 ‹j < i› (by rw [bothB, nt ‹(!(meetV r i j).2) = true›]; simp)).symm | exact (lat_yes hn ho ‹_› hg).symm
       ·refine CW.skip ?_
        refine CW.region ?_
        refine V (run_add e28_16 rfl (by omega)) ?_
        refine V (mV (I _) rfl) ?_
        refine RL.nil ?_
        refine ⟨j + 1, ?_, fr16.u4.u4.u4.u4.u4.u4.u4.u1, hH23, (congrArg I (by first | rfl | omega)), ?_, ?_, ?_⟩
        ·((try dsimp only); omega)
        ·omega
        ·omega
        ·exact fun b x y => if e : b = j then e ▸ (by rw [bothB, Bool.and_eq_true]; exact ⟨nf ‹(!(joinV r i j).2) = false›, nf ‹(!(meetV r i j).2) = false›⟩) else hh b x (by omega)
     ·refine CW.exit (id := 2) rfl ?_
      refine CW.region ?_
      refine V (run_add e24_16 rfl (by omega)) ?_
      refine V (mV (I _) rfl) ?_
      refine RL.nil ?_
      refine ⟨i + 1, ?_, (((fr13.u4.u1).t fr16 rfl)).u1.u1.u1, hH16, (congrArg I (by first | rfl | omega)), ?_, ?_, ?_⟩
      ·((try dsimp only); omega)
      ·omega
      ·omega
      ·exact fun a b x y z => if e : a = i then e ▸ hh b x (by omega) else hg a b x y (by omega)
    ·refine CW.exit (id := 0) rfl ?_
     refine SR ?_
     refine V (aV (B true) rfl) ?_
     refine RL.nil ?_
     refine CW.ret ?_
     refine outP1 Tryz.results103 (congrArg B ?_) hH13.below
     first | exact (lat_no1 (by omega)).symm | exact (lat_no2 (nt ‹_›)).symm | exact (lat_no3 ‹i < r.n› j0 ‹j < i› (by rw [bothB, nt ‹(!(joinV r i j).2) = true›]; rfl)).symm | exact (lat_no3 ‹i < r.n› j0 ‹j < i› (by rw [bothB, nt ‹(!(meetV r i j).2) = true›]; simp)).symm | exact (lat_yes hn ho ‹_› hg).symm

theorem c_grid_Right (r : Rl) (w : World) : Calls Tryz.prog 102 #[.agg (relC r)] w (Pure (B (rightG r)) w) := by
 refine enter Tryz.func102 rfl Tryz.ntmps102 rfl ?_
 have hH := Hp.start w
 refine SR ?_
 refine RL.new rfl hH (f := fun b => (.pointer (some ⟨b, 0, none⟩))) (run_box (v := .agg _) rfl) ?_
 intro b3 w1 hH2
 refine V (aV (B false) rfl) ?_
 refine RL.nil ?_
 refine SR ?_
 refine V (fA underlying57 0 rfl sizeOf3 rfl) ?_
 refine V (run_ld underlying3 rfl rfl (hH2.cell (i := 0) rfl (relC_N _))) ?_
 refine V (run_geq rfl rfl) ?_
 refine V (mV (B _) rfl) ?_
 refine RL.splitP (dj := 6) rfl (fun h5 => ?_) (fun h5 => ?_)
 ·refine RL.gT rfl (bT h5) ?_
  refine V (fA underlying57 0 rfl sizeOf3 rfl) ?_
  refine RL.gT rfl (bT h5) ?_
  refine V (run_ld underlying3 rfl rfl (hH2.cell (i := 0) rfl (relC_N _))) ?_
  refine RL.gT rfl (bT h5) ?_
  refine V (run_leq rfl rfl) ?_
  refine V (run_pickT (bT h5) (v := B _) rfl) ?_
  refine V (mV (B _) rfl) ?_
  refine RL.splitP (dj := 11) rfl (fun h7 => ?_) (fun h7 => ?_)
  ·refine RL.gT rfl (bT h7) ?_
   refine V (run_ldRel underlying57 rfl rfl rfl (hH2.blk (i := 0) rfl)) ?_
   refine RL.gT rfl (bT h7) ?_
   refine RL.callP rfl hH2 (c_relate_Closed _  _) (run_call1 call131 rfl) ?_
   intro w8 hH9
   refine V (run_pickT (bT h7) (v := B _) rfl) ?_
   refine V (aV (B _) rfl) ?_
   refine RL.nil ?_
   refine CW.ret ?_
   refine outP1 Tryz.results102 (congrArg B ?_) hH9.below
   first | rw [rightG, decide_eq_false (show ¬ (1 ≤ r.n ∧ r.n ≤ 8) by omega), Bool.false_and] | rw [rightG, decide_eq_true (show 1 ≤ r.n ∧ r.n ≤ 8 by omega), Bool.true_and]
  ·refine RL.gF rfl rfl (bF h7) rfl ?_
   refine RL.gF rfl rfl (bF h7) rfl ?_
   refine V (run_pickF (bF h7) (v := B false) rfl) ?_
   refine V (aV (B _) rfl) ?_
   refine RL.nil ?_
   refine CW.ret ?_
   refine outP1 Tryz.results102 (congrArg B ?_) hH2.below
   first | rw [rightG, decide_eq_false (show ¬ (1 ≤ r.n ∧ r.n ≤ 8) by omega), Bool.false_and] | rw [rightG, decide_eq_true (show 1 ≤ r.n ∧ r.n ≤ 8 by omega), Bool.true_and]
 ·refine RL.gF rfl rfl (bF h5) rfl ?_
  refine RL.gF rfl rfl (bF h5) rfl ?_
  refine RL.gF rfl rfl (bF h5) rfl ?_
  refine V (run_pickF (bF h5) (v := B false) rfl) ?_
  refine V (mV (B _) rfl) ?_
  refine RL.gF rfl rfl rfl rfl ?_
  refine RL.gF rfl rfl rfl rfl ?_
  refine V (run_pickF rfl (v := B false) rfl) ?_
  refine V (aV (B _) rfl) ?_
  refine RL.nil ?_
  refine CW.ret ?_
  refine outP1 Tryz.results102 (congrArg B ?_) hH2.below
  first | rw [rightG, decide_eq_false (show ¬ (1 ≤ r.n ∧ r.n ≤ 8) by omega), Bool.false_and] | rw [rightG, decide_eq_true (show 1 ≤ r.n ∧ r.n ≤ 8 by omega), Bool.true_and]

theorem c_grid_row (r : Rl) (s : BitVec 64) (o : Int) (ho : 0 ≤ o ∧ o < 8) (w : World) : Calls Tryz.prog 141 #[.agg (relC r), U s, I o] w (Pure (U (growG r s o)) w) := by
 refine enter Tryz.func141 rfl Tryz.ntmps141 rfl ?_
 have hH := Hp.start w
 refine SR ?_
 refine RL.new rfl hH (f := fun b => (.pointer (some ⟨b, 0, none⟩))) (run_box (v := .agg _) rfl) ?_
 intro b3 w1 hH2
 refine V (aV (U 0#64) rfl) ?_
 refine RL.nil ?_
 refine SR ?_
 refine V (mV (U _) rfl) ?_
 refine V (mV (I _) rfl) ?_
 refine V (run_mul rfl rfl (by omega)) ?_
 refine V (run_convIU underlying3 underlying120 rfl) ?_
 refine V (run_shrU rfl rfl) ?_
 refine V (fA underlying57 0 rfl sizeOf3 rfl) ?_
 refine V (run_ld underlying3 rfl rfl (hH2.cell (i := 0) rfl (relC_N _))) ?_
 refine RL.callP rfl hH2 (c_mask_Below _  _) (run_call1 call76 rfl) ?_
 intro w4 hH5
 refine V (run_andU rfl rfl) ?_
 refine V (aV (U _) rfl) ?_
 refine RL.nil ?_
 refine CW.ret ?_
 refine outP1 Tryz.results141 (congrArg U ?_) hH5.below
 rfl

theorem c_grid_rows (r : Rl) (f : FuncId) (cs : List Value) (ff : Int → BitVec 64) (hn : 1 ≤ r.n ∧ r.n ≤ 8) (w : World) (hf : ∀ args w, (callFunc f args).run Tryz.prog w = .ok (.enter f args) w) (go : ∀ i w', Below w.heap.size w w' → 0 ≤ i → i < r.n → Calls Tryz.prog f (I i :: cs).toArray w' (Pure (U (ff i)) w')) : Calls Tryz.prog 136 #[.agg (relC r), .func (.func f) #[] cs.toArray] w (Pure (U (rowsG ff r.n)) w) := by
 refine enter Tryz.func136 rfl Tryz.ntmps136 rfl ?_
 have hH := Hp.start w
 refine SR ?_
 refine RL.new rfl hH (f := fun b => (.pointer (some ⟨b, 0, none⟩))) (run_box (v := .agg _) rfl) ?_
 intro b3 w1 hH2
 refine V (aV (U 0#64) rfl) ?_
 refine RL.nil ?_
 refine SR ?_
 refine V (aV (U 0#64) rfl) ?_
 refine RL.nil ?_
 refine CW.seq ?_
 refine SR ?_
 refine V (fA underlying57 0 rfl sizeOf3 rfl) ?_
 refine V (run_ld underlying3 rfl rfl (hH2.cell (i := 0) rfl (relC_N _))) ?_
 refine V (mV (I 0) rfl) ?_
 refine RL.nil ?_
 refine CW.block ?_
 refine CW.loop (G := (Int)) (fun (k : Int) s' w' => (Fr [5, 6, 9, 10, 11, 12, 13, 14, 15, 16, 17, 18, 19, 20, 21] _ s') ∧ (Hp w w' _) ∧ (s' 5 = U (rowsG ff k)) ∧ (s' 9 = I k) ∧ (0 ≤ k) ∧ (k ≤ r.n)) (fun (k : Int) => (r.n - k).toNat) (0) ⟨Fr.refl _ _, hH2, rfl, rfl, (by omega), (by omega)⟩ ?_
 rintro k sg4 w4 ⟨fr4, hH4, e5_4, e9_4, h0, hk⟩
 have e1_4 : sg4 1 = .func _ _ _ := (fr4 1 rfl).trans rfl
 have e4_4 : sg4 4 = U _ := (fr4 4 rfl).trans rfl
 have e8_4 : sg4 8 = I _ := (fr4 8 rfl).trans rfl
 refine SR ?_
 refine V (run_lss e9_4 e8_4) ?_
 refine RL.nil ?_
 refine CW.seq ?_
 refine CW.condP rfl (fun h6 => ?_) (fun h6 => ?_)
 ·refine CW.skip ?_
  refine CW.seq ?_
  refine CW.block ?_
  refine SR ?_
  refine V (run_move e9_4) ?_
  refine V (aV (I _) rfl) ?_
  refine RL.nil ?_
  refine CW.region ?_
  refine V (run_move e5_4) ?_
  refine V (run_move e1_4) ?_
  refine V (mV (I _) rfl) ?_
  refine RL.callP rfl hH4 (go _ _ hH4.below (by omega) (by omega)) (run_callC1 hf (cs := cs) rfl rfl) ?_
  intro w7 hH8
  refine V (mV (I _) rfl) ?_
  refine V (run_mul rfl rfl (by omega)) ?_
  refine V (run_convIU underlying3 underlying120 rfl) ?_
  refine V (run_shlU rfl rfl) ?_
  refine V (run_orU rfl rfl) ?_
  refine V (aV (U _) rfl) ?_
  refine RL.nil ?_
  refine CW.region ?_
  refine V (run_add e9_4 rfl (by omega)) ?_
  refine V (mV (I _) rfl) ?_
  refine RL.nil ?_
  refine ⟨k + 1, ?_, fr4.u4.u4.u4.u1.u1.u1, hH8, (congrArg U (rows_next h0)), (congrArg I (by first | rfl | omega)), ?_, ?_⟩
  ·((try dsimp only); omega)
  ·omega
  ·omega
 ·refine CW.exit (id := 0) rfl ?_
  refine SR ?_
  refine V (run_move e5_4) ?_
  refine V (aV (U _) rfl) ?_
  refine RL.nil ?_
  refine CW.ret ?_
  refine outP1 Tryz.results136 (congrArg U ?_) hH4.below
  (rw [show k = r.n by omega])

theorem c_grid_Close_1 (b c : Nat) (r : Rl) (s : BitVec 64) (o : Int) (hr : rightG r = true) (w : World) (hb : w.heap[b]? = some (.cells (relC r) 57 (0, 0))) (hc : w.heap[c]? = some (.cells #[U s] 49 (0, 0))) (hT : Tab w) : Calls Tryz.prog 137 #[I o, .pointer (some ⟨b, 0, none⟩), .pointer (some ⟨c, 0, none⟩)] w (Pure (U (closeF r s o)) w) := by
 have hl := lst_len (upR r (ofl [o]))
 refine enter Tryz.func137 rfl Tryz.ntmps137 rfl ?_
 have hH := Hp.start w
 refine SR ?_
 refine V (aV (U 0#64) rfl) ?_
 refine RL.nil ?_
 refine SR ?_
 refine V (aV (U 0#64) rfl) ?_
 refine RL.nil ?_
 refine CW.seq ?_
 refine CW.seq ?_
 refine CW.regionD (by kernel_rfl) hH ?_
 intro w1 hH2
 refine AT 0 rfl (hH2.sub sR) (fun w hS => run_ldRel underlying57 rfl rfl rfl (hS.ext hb)) ?_
 refine AT 1 rfl (hH2.sub sR) (fun w hS => mV (I _) rfl) ?_
 refine AT 7 rfl (hH2.sub sR) (fun w hS => mV (I 0) rfl) ?_
 refine A1 2 ?_
 refine AO.new rfl gnone rfl hH2 sR (f := fun b => .slice (some ⟨b, 0, none⟩) 1 1) (run_mkL underlying111 rfl rfl (sz := 1) (vs := [I _]) rfl rfl (by decide) (by decide) rfl rfl) ?_
 intro b5 w3 hH4
 (try simp only [List.flatMap_cons, List.flatMap_nil, clI, clB, clS, clP, clL, clA, List.append_nil, List.cons_append, List.nil_append] at hH4)
 have hH6 := hH4.blkRow 1 1 rfl (by decide)
 refine A1 3 ?_
 refine AO.callP rfl gnone rfl hH6 (sQ sR) (c_mask_Of _ [o] _ (hH6.sl (i := 0) rfl)) (run_call1 call139 rfl) ?_
 intro w7 hH8
 refine A1 4 ?_
 refine AO.callP rfl gnone rfl hH8 (sQ sR) (c_relate_Up _ _  _ (hT.hp hH8)) (run_call2 call138 rfl rfl) ?_
 intro w9 hH10
 refine A1 5 ?_
 refine AO.callR rfl gnone rfl hH10 (sQ sR) (c_mask_List _  _ (hT.hp hH10)) (run_call1 call120 rfl) ?_
 intro v13 w11 hH12
 refine A1 6 ?_
 refine AO.read rfl gnone rfl hH12 (sQ (sQ sR)) (run_lenSl (hH12.sl (i := 0) rfl) rfl underlying111 rfl) ?_
 refine AD ?_
 refine CW.block ?_
 refine CW.loop (G := (Int)) (fun (k : Int) s' w' => (Fr [5, 7, 15, 16, 17, 18, 19, 20, 21, 22, 23, 24, 25, 26, 27] _ s') ∧ (Hp w w' _) ∧ (s' 5 = U (orAll (fun p => downR r (growG r s p)) ((lst (upR r (ofl [o]))).take k.toNat))) ∧ (s' 15 = I k) ∧ (0 ≤ k) ∧ (k ≤ (lst (upR r (ofl [o]))).length)) (fun (k : Int) => ((lst (upR r (ofl [o]))).length - k).toNat) (0) ⟨Fr.refl _ _, hH12, (congrArg U (by simp [orAll])), rfl, (by omega), (by omega)⟩ ?_
 rintro k sg16 w16 ⟨fr16, hH16, e5_16, e15_16, h0, hk⟩
 have e1_16 := (fr16 1 rfl).trans (by conv => lhs; whnf)
 have e2_16 := (fr16 2 rfl).trans (by conv => lhs; whnf)
 have e4_16 : sg16 4 = U _ := (fr16 4 rfl).trans rfl
 have e13_16 := (fr16 13 rfl).trans (by conv => lhs; whnf)
 have e14_16 : sg16 14 = I _ := (fr16 14 rfl).trans rfl
 refine SR ?_
 refine V (run_lss e15_16 e14_16) ?_
 refine RL.nil ?_
 refine CW.seq ?_
 refine CW.condP rfl (fun h18 => ?_) (fun h18 => ?_)
 ·refine CW.skip ?_
  refine CW.seq ?_
  refine CW.block ?_
  refine SR ?_
  refine V (run_indexAddrS (hH16.sl (i := 0) rfl) underlying111 sizeOf3 e13_16 e15_16 (by omega)) ?_
  refine V (run_ld underlying3 rfl rfl ((hH16.sl (i := 0) rfl).cell _ _ (map_at (by omega)))) ?_
  refine V (aV (I _) rfl) ?_
  refine RL.nil ?_
  refine CW.regionD (by kernel_rfl) hH16 ?_
  intro w19 hH20
  refine AT 0 rfl (hH20.sub sR) (fun w hS => run_move e5_16) ?_
  refine AT 1 rfl (hH20.sub sR) (fun w hS => run_ldRel underlying57 rfl rfl e1_16 (hS.ext hb)) ?_
  refine AT 2 rfl (hH20.sub sR) (fun w hS => run_ldRel underlying57 rfl rfl e1_16 (hS.ext hb)) ?_
  refine AT 3 rfl (hH20.sub sR) (fun w hS => run_ld underlying49 rfl e2_16 (hS.extCell hc (v := U _) rfl)) ?_
  refine AT 4 rfl (hH20.sub sR) (fun w hS => mV (I _) rfl) ?_
  refine A1 5 ?_
  refine AO.callP rfl gnone rfl hH20 sR (c_grid_row _ _ _ (above_lt hr (lst_at h0 ‹_›)) _) (run_call3 call141 rfl rfl rfl) ?_
  intro w21 hH22
  refine A1 6 ?_
  refine AO.callP rfl gnone rfl hH22 sR (c_relate_Down _ _  _) (run_call2 call140 rfl rfl) ?_
  intro w23 hH24
  refine AT 7 rfl (hH24.sub sR) (fun w hS => run_orU rfl rfl) ?_
  refine AT 8 rfl (hH24.sub sR) (fun w hS => aV (U _) rfl) ?_
  refine AD ?_
  refine CW.region ?_
  refine V (run_add e15_16 rfl (by omega)) ?_
  refine V (mV (I _) rfl) ?_
  refine RL.nil ?_
  refine ⟨k + 1, ?_, fr16.u4.u4.u4.u1.u1.u1, hH24, (congrArg U (orAll_next (f := fun p => downR r (growG r s p)) h0 ‹_›)), (congrArg I (by first | rfl | omega)), ?_, ?_⟩
  ·((try dsimp only); omega)
  ·omega
  ·omega
 ·refine CW.exit (id := 0) rfl ?_
  refine SR ?_
  refine V (run_move e5_16) ?_
  refine V (aV (U _) rfl) ?_
  refine RL.nil ?_
  refine CW.ret ?_
  refine outP1 Tryz.results137 (congrArg U ?_) hH16.below
  (rw [take_all ‹_›]; rfl)

theorem c_grid_Close (r : Rl) (s : BitVec 64) (w : World) (hT : Tab w) : Calls Tryz.prog 105 #[.agg (relC r), U s] w (Pure (U (closeG r s)) w) := by
 refine enter Tryz.func105 rfl Tryz.ntmps105 rfl ?_
 have hH := Hp.start w
 refine SR ?_
 refine RL.new rfl hH (f := fun b => (.pointer (some ⟨b, 0, none⟩))) (run_box (v := .agg _) rfl) ?_
 intro b3 w1 hH2
 refine RL.new rfl hH2 (f := fun b => (.pointer (some ⟨b, 0, none⟩))) (run_box (v := U _) rfl) ?_
 intro b6 w4 hH5
 refine V (aV (U 0#64) rfl) ?_
 refine RL.nil ?_
 refine CW.seq ?_
 refine SR ?_
 refine V (run_ldRel underlying57 rfl rfl rfl (hH5.blk (i := 1) rfl)) ?_
 refine RL.callP rfl hH5 (c_grid_Right _  _) (run_call1 call102 rfl) ?_
 intro w7 hH8
 refine V (run_not rfl) ?_
 refine RL.nil ?_
 refine CW.cond rfl (fun h11 => ?_) (fun h11 => ?_)
 ·refine SR ?_
  refine V (aV (U 0#64) rfl) ?_
  refine RL.nil ?_
  refine CW.ret ?_
  refine outP1 Tryz.results105 (congrArg U ?_) hH8.below
  first | exact (close_no (nt ‹_›)).symm | exact close_yes (nf ‹_›)
 ·refine CW.skip ?_
  refine SR ?_
  refine V (run_ldRel underlying57 rfl rfl rfl (hH8.blk (i := 1) rfl)) ?_
  refine V (run_mkF2 (by conv => lhs; whnf) (by conv => lhs; whnf)) ?_
  refine RL.callP rfl hH8 (c_grid_rows r 137 [.pointer (some ⟨b3, 0, none⟩), .pointer (some ⟨b6, 0, none⟩)] (closeF r s) (right_spec (nf ‹(!rightG r) = false›)).1 _ call137 (fun i w h _ _ => c_grid_Close_1 b3 b6 r s i (nf ‹(!rightG r) = false›) w (keep h (hH8.blk (i := 1) rfl)) (keep h (hH8.blk (i := 0) rfl)) ((hT.hp hH8).below h))) (run_call2 call136 rfl rfl) ?_
  intro w12 hH13
  refine V (aV (U _) rfl) ?_
  refine RL.nil ?_
  refine CW.ret ?_
  refine outP1 Tryz.results105 (congrArg U ?_) hH13.below
  first | exact (close_no (nt ‹_›)).symm | exact close_yes (nf ‹_›)

theorem c_grid_Closed (r : Rl) (s : BitVec 64) (w : World) (hT : Tab w) : Calls Tryz.prog 77 #[.agg (relC r), U s] w (Pure (B (closedG r s)) w) := by
 refine enter Tryz.func77 rfl Tryz.ntmps77 rfl ?_
 have hH := Hp.start w
 refine SR ?_
 refine RL.new rfl hH (f := fun b => (.pointer (some ⟨b, 0, none⟩))) (run_box (v := .agg _) rfl) ?_
 intro b3 w1 hH2
 refine V (aV (B false) rfl) ?_
 refine RL.nil ?_
 refine SR ?_
 refine V (run_ldRel underlying57 rfl rfl rfl (hH2.blk (i := 0) rfl)) ?_
 refine RL.callP rfl hH2 (c_grid_Right _  _) (run_call1 call102 rfl) ?_
 intro w4 hH5
 refine V (mV (B _) rfl) ?_
 refine RL.split (dj := 7) rfl (fun h7 => ?_) (fun h7 => ?_)
 ·refine RL.gT rfl (bR (c := true) h7) ?_
  refine V (run_ldRel underlying57 rfl rfl rfl (hH5.blk (i := 0) rfl)) ?_
  refine RL.gT rfl (bR (c := true) h7) ?_
  refine V (mV (U _) rfl) ?_
  refine RL.gT rfl (bR (c := true) h7) ?_
  refine RL.callP rfl hH5 (c_grid_Close _ _  _ (hT.hp hH5)) (run_call2 call105 rfl rfl) ?_
  intro w8 hH9
  refine RL.gT rfl (bR (c := true) h7) ?_
  refine V (mV (U _) rfl) ?_
  refine RL.gT rfl (bR (c := true) h7) ?_
  refine V (run_eqlU rfl rfl) ?_
  refine V (run_pickT (bR (c := true) h7) (v := B _) rfl) ?_
  refine V (aV (B _) rfl) ?_
  refine RL.nil ?_
  refine CW.ret ?_
  refine outP1 Tryz.results77 (congrArg B ?_) hH9.below
  first | (rw [closedG, ‹rightG r = false›]; rfl) | (rw [closedG, ‹rightG r = true›]; rfl)
 ·refine RL.gF rfl rfl (bR (c := false) h7) rfl ?_
  refine RL.gF rfl rfl (bR (c := false) h7) rfl ?_
  refine RL.gF rfl rfl (bR (c := false) h7) rfl ?_
  refine RL.gF rfl rfl (bR (c := false) h7) rfl ?_
  refine RL.gF rfl rfl (bR (c := false) h7) rfl ?_
  refine V (run_pickF (bR (c := false) h7) (v := B false) rfl) ?_
  refine V (aV (B _) rfl) ?_
  refine RL.nil ?_
  refine CW.ret ?_
  refine outP1 Tryz.results77 (congrArg B ?_) hH5.below
  first | (rw [closedG, ‹rightG r = false›]; rfl) | (rw [closedG, ‹rightG r = true›]; rfl)

theorem c_grid_owns (r : Rl) (o : Int) (w : World) : Calls Tryz.prog 150 #[.agg (relC r), I o] w (Pure (B (ownsG r o)) w) := by
 refine enter Tryz.func150 rfl Tryz.ntmps150 rfl ?_
 have hH := Hp.start w
 refine SR ?_
 refine RL.new rfl hH (f := fun b => (.pointer (some ⟨b, 0, none⟩))) (run_box (v := .agg _) rfl) ?_
 intro b3 w1 hH2
 refine V (aV (B false) rfl) ?_
 refine RL.nil ?_
 refine SR ?_
 refine V (run_ldRel underlying57 rfl rfl rfl (hH2.blk (i := 0) rfl)) ?_
 refine RL.callP rfl hH2 (c_grid_Right _  _) (run_call1 call102 rfl) ?_
 intro w4 hH5
 refine V (mV (B _) rfl) ?_
 refine RL.split (dj := 7) rfl (fun h7 => ?_) (fun h7 => ?_)
 ·refine RL.gT rfl (bR (c := true) h7) ?_
  refine V (mV (I _) rfl) ?_
  refine RL.gT rfl (bR (c := true) h7) ?_
  refine V (run_geq rfl rfl) ?_
  refine V (run_pickT (bR (c := true) h7) (v := B _) rfl) ?_
  refine V (mV (B _) rfl) ?_
  refine RL.splitP (dj := 11) rfl (fun h9 => ?_) (fun h9 => ?_)
  ·refine RL.gT rfl (bT h9) ?_
   refine V (mV (I _) rfl) ?_
   refine RL.gT rfl (bT h9) ?_
   refine V (fA underlying57 0 rfl sizeOf3 rfl) ?_
   refine RL.gT rfl (bT h9) ?_
   refine V (run_ld underlying3 rfl rfl (hH5.cell (i := 0) rfl (relC_N _))) ?_
   refine RL.gT rfl (bT h9) ?_
   refine V (run_lss rfl rfl) ?_
   refine V (run_pickT (bT h9) (v := B _) rfl) ?_
   refine V (aV (B _) rfl) ?_
   refine RL.nil ?_
   refine CW.ret ?_
   refine outP1 Tryz.results150 (congrArg B ?_) hH5.below
   first | rw [own_no (.inl ‹_›)] | rw [own_no (.inr (by omega))] | (rw [ownsG, ‹rightG r = true›, Bool.true_and, Bool.eq_iff_iff]; simp only [decide_eq_true_eq]; omega)
  ·refine RL.gF rfl rfl (bF h9) rfl ?_
   refine RL.gF rfl rfl (bF h9) rfl ?_
   refine RL.gF rfl rfl (bF h9) rfl ?_
   refine RL.gF rfl rfl (bF h9) rfl ?_
   refine V (run_pickF (bF h9) (v := B false) rfl) ?_
   refine V (aV (B _) rfl) ?_
   refine RL.nil ?_
   refine CW.ret ?_
   refine outP1 Tryz.results150 (congrArg B ?_) hH5.below
   first | rw [own_no (.inl ‹_›)] | rw [own_no (.inr (by omega))] | (rw [ownsG, ‹rightG r = true›, Bool.true_and, Bool.eq_iff_iff]; simp only [decide_eq_true_eq]; omega)
 ·refine RL.gF rfl rfl (bR (c := false) h7) rfl ?_
  refine RL.gF rfl rfl (bR (c := false) h7) rfl ?_
  refine V (run_pickF (bR (c := false) h7) (v := B false) rfl) ?_
  refine V (mV (B _) rfl) ?_
  refine RL.gF rfl rfl rfl rfl ?_
  refine RL.gF rfl rfl rfl rfl ?_
  refine RL.gF rfl rfl rfl rfl ?_
  refine RL.gF rfl rfl rfl rfl ?_
  refine V (run_pickF rfl (v := B false) rfl) ?_
  refine V (aV (B _) rfl) ?_
  refine RL.nil ?_
  refine CW.ret ?_
  refine outP1 Tryz.results150 (congrArg B ?_) hH5.below
  first | rw [own_no (.inl ‹_›)] | rw [own_no (.inr (by omega))] | (rw [ownsG, ‹rightG r = true›, Bool.true_and, Bool.eq_iff_iff]; simp only [decide_eq_true_eq]; omega)

theorem c_grid_Readers (r : Rl) (s : BitVec 64) (o : Int) (w : World) : Calls Tryz.prog 122 #[.agg (relC r), U s, I o] w (Pure (U (readersG r s o)) w) := by
 refine enter Tryz.func122 rfl Tryz.ntmps122 rfl ?_
 have hH := Hp.start w
 refine SR ?_
 refine RL.new rfl hH (f := fun b => (.pointer (some ⟨b, 0, none⟩))) (run_box (v := .agg _) rfl) ?_
 intro b3 w1 hH2
 refine V (aV (U 0#64) rfl) ?_
 refine RL.nil ?_
 refine CW.seq ?_
 refine SR ?_
 refine V (run_ldRel underlying57 rfl rfl rfl (hH2.blk (i := 0) rfl)) ?_
 refine V (mV (I _) rfl) ?_
 refine RL.callP rfl hH2 (c_grid_owns _ _  _) (run_call2 call150 rfl rfl) ?_
 intro w4 hH5
 refine V (run_not rfl) ?_
 refine RL.nil ?_
 refine CW.cond rfl (fun h8 => ?_) (fun h8 => ?_)
 ·refine SR ?_
  refine V (aV (U 0#64) rfl) ?_
  refine RL.nil ?_
  refine CW.ret ?_
  refine outP1 Tryz.results122 (congrArg U ?_) hH5.below
  first | exact (read_no (nt ‹_›)).symm | (rw [readersG, if_pos (nf ‹_›)])
 ·refine CW.skip ?_
  refine CW.seq ?_
  refine CW.regionD (by kernel_rfl) hH5 ?_
  intro w9 hH10
  refine AT 0 rfl (hH10.sub sR) (fun w hS => fA underlying57 0 rfl sizeOf3 rfl) ?_
  refine AT 1 rfl (hH10.sub sR) (fun w hS => run_ld underlying3 rfl rfl (hS.cell (i := 0) rfl (relC_N _))) ?_
  refine AT 3 rfl (hH10.sub sR) (fun w hS => run_ldRel underlying57 rfl rfl rfl (hS.blk (i := 0) rfl)) ?_
  refine AT 4 rfl (hH10.sub sR) (fun w hS => mV (U _) rfl) ?_
  refine AT 5 rfl (hH10.sub sR) (fun w hS => mV (I _) rfl) ?_
  refine A1 2 ?_
  refine AO.callP rfl gnone rfl hH10 sR (c_mask_Below _  _) (run_call1 call76 rfl) ?_
  intro w11 hH12
  refine A1 6 ?_
  refine AO.callP rfl gnone rfl hH12 sR (c_grid_row _ _ _ (own_lt (nf ‹(!ownsG r o) = false›)) _) (run_call3 call141 rfl rfl rfl) ?_
  intro w13 hH14
  refine AT 7 rfl (hH14.sub sR) (fun w hS => run_andNotU rfl rfl) ?_
  refine AT 8 rfl (hH14.sub sR) (fun w hS => aV (U _) rfl) ?_
  refine AD ?_
  refine CW.ret ?_
  refine outP1 Tryz.results122 (congrArg U ?_) hH14.below
  first | exact (read_no (nt ‹_›)).symm | (rw [readersG, if_pos (nf ‹_›)])

theorem c_grid_Owners (r : Rl) (s : BitVec 64) (w : World) : Calls Tryz.prog 121 #[.agg (relC r), U s] w (Pure (U (ownersG r s)) w) := by
 refine enter Tryz.func121 rfl Tryz.ntmps121 rfl ?_
 have hH := Hp.start w
 refine SR ?_
 refine RL.new rfl hH (f := fun b => (.pointer (some ⟨b, 0, none⟩))) (run_box (v := .agg _) rfl) ?_
 intro b3 w1 hH2
 refine V (aV (U 0#64) rfl) ?_
 refine RL.nil ?_
 refine SR ?_
 refine V (aV (U 0#64) rfl) ?_
 refine RL.nil ?_
 refine CW.seq ?_
 refine SR ?_
 refine V (run_ldRel underlying57 rfl rfl rfl (hH2.blk (i := 0) rfl)) ?_
 refine RL.callP rfl hH2 (c_grid_Right _  _) (run_call1 call102 rfl) ?_
 intro w4 hH5
 refine V (run_not rfl) ?_
 refine RL.nil ?_
 refine CW.cond rfl (fun h8 => ?_) (fun h8 => ?_)
 ·refine SR ?_
  refine V (aV (U 0#64) rfl) ?_
  refine RL.nil ?_
  refine CW.ret ?_
  refine outP1 Tryz.results121 (congrArg U ?_) hH5.below
  first | exact (owner_no (nt ‹_›)).symm | exact owner_yes hr (by omega)
 ·refine CW.skip ?_
  refine CW.seq ?_
  refine SR ?_
  refine V (fA underlying57 0 rfl sizeOf3 rfl) ?_
  refine V (run_ld underlying3 rfl rfl (hH5.cell (i := 0) rfl (relC_N _))) ?_
  refine V (mV (I 0) rfl) ?_
  refine RL.nil ?_
  refine CW.block ?_
  have hr : rightG r = true := nf ‹_›
  have hs := right_spec hr
  refine CW.loop (G := (Int)) (fun (k : Int) s' w' => (Fr [5, 6, 12, 13, 14, 15, 16, 17, 18, 19, 20, 21, 22, 23] _ s') ∧ (Hp w w' _) ∧ (s' 5 = U (ofl (ownL r s k))) ∧ (s' 12 = I k) ∧ (0 ≤ k) ∧ (k ≤ r.n)) (fun (k : Int) => (r.n - k).toNat) (0) ⟨Fr.refl _ _, hH5, (congrArg U (by rfl)), rfl, (by omega), (by omega)⟩ ?_
  rintro k sg9 w9 ⟨fr9, hH9, e5_9, e12_9, h0, hk⟩
  have e1_9 : sg9 1 = U _ := (fr9 1 rfl).trans rfl
  have e2_9 : sg9 2 = Pn _ _ := (fr9 2 rfl).trans rfl
  have e4_9 : sg9 4 = U _ := (fr9 4 rfl).trans rfl
  have e11_9 : sg9 11 = I _ := (fr9 11 rfl).trans rfl
  refine SR ?_
  refine V (run_lss e12_9 e11_9) ?_
  refine RL.nil ?_
  refine CW.seq ?_
  refine CW.condP rfl (fun h11 => ?_) (fun h11 => ?_)
  ·refine CW.skip ?_
   refine CW.seq ?_
   refine CW.block ?_
   refine SR ?_
   refine V (run_move e12_9) ?_
   refine V (aV (I _) rfl) ?_
   refine RL.nil ?_
   refine SR ?_
   refine V (run_ldRel underlying57 rfl rfl e2_9 (hH9.blk (i := 0) rfl)) ?_
   refine V (run_move e1_9) ?_
   refine V (mV (I _) rfl) ?_
   refine RL.callP rfl hH9 (c_grid_row _ _ _ (by omega) _) (run_call3 call141 rfl rfl rfl) ?_
   intro w12 hH13
   refine V (run_neqU rfl (b := 0#64) rfl) ?_
   refine RL.nil ?_
   refine CW.condP rfl (fun h15 => ?_) (fun h15 => ?_)
   ·refine CW.region ?_
    refine V (run_move e5_9) ?_
    refine V (mV (I _) rfl) ?_
    refine RL.callP rfl hH13 (c_mask_With _ _  _) (run_call2 call149 rfl rfl) ?_
    intro w16 hH17
    refine V (aV (U _) rfl) ?_
    refine RL.nil ?_
    refine CW.region ?_
    refine V (run_add e12_9 rfl (by omega)) ?_
    refine V (mV (I _) rfl) ?_
    refine RL.nil ?_
    refine ⟨k + 1, ?_, fr9.u4.u4.u4.u1.u1, hH17, (congrArg U (by first | (rw [withB_ofl, ownL_yes h0 ‹_›]) | (rw [ownL_no h0 ‹_›]))), (congrArg I (by first | rfl | omega)), ?_, ?_⟩
    ·((try dsimp only); omega)
    ·omega
    ·omega
   ·refine CW.skip ?_
    refine CW.region ?_
    refine V (run_add e12_9 rfl (by omega)) ?_
    refine V (mV (I _) rfl) ?_
    refine RL.nil ?_
    refine ⟨k + 1, ?_, fr9.u4.u4.u1.u1, hH13, (Eq.trans e5_9 (congrArg U (by first | (rw [withB_ofl, ownL_yes h0 ‹_›]) | (rw [ownL_no h0 ‹_›])))), (congrArg I (by first | rfl | omega)), ?_, ?_⟩
    ·((try dsimp only); omega)
    ·omega
    ·omega
  ·refine CW.exit (id := 0) rfl ?_
   refine SR ?_
   refine V (run_move e5_9) ?_
   refine V (aV (U _) rfl) ?_
   refine RL.nil ?_
   refine CW.ret ?_
   refine outP1 Tryz.results121 (congrArg U ?_) hH9.below
   first | exact (owner_no (nt ‹_›)).symm | exact owner_yes hr (by omega)

theorem c_name_letter (c : Int) (w : World) : Calls Tryz.prog 79 #[.int .u8 c] w (Pure (B (letterB c)) w) := by
 refine enter Tryz.func79 rfl Tryz.ntmps79 rfl ?_
 have hH := Hp.start w
 refine SR ?_
 refine V (aV (B false) rfl) ?_
 refine RL.nil ?_
 refine SR ?_
 refine V (mV (.int _ _) rfl) ?_
 refine V (run_geq rfl rfl) ?_
 refine V (mV (B _) rfl) ?_
 refine RL.splitP (dj := 5) rfl (fun h2 => ?_) (fun h2 => ?_)
 ·refine RL.gT rfl (bT h2) ?_
  refine V (mV (.int _ _) rfl) ?_
  refine RL.gT rfl (bT h2) ?_
  refine V (run_leq rfl rfl) ?_
  refine V (run_pickT (bT h2) (v := B _) rfl) ?_
  refine V (aV (B _) rfl) ?_
  refine RL.nil ?_
  refine CW.ret ?_
  refine outP1 Tryz.results79 (congrArg B ?_) hH.below
  (rw [letterB, Bool.eq_iff_iff]; simp only [decide_eq_true_eq, Bool.false_eq_true, false_iff]; omega)
 ·refine RL.gF rfl rfl (bF h2) rfl ?_
  refine RL.gF rfl rfl (bF h2) rfl ?_
  refine V (run_pickF (bF h2) (v := B false) rfl) ?_
  refine V (aV (B _) rfl) ?_
  refine RL.nil ?_
  refine CW.ret ?_
  refine outP1 Tryz.results79 (congrArg B ?_) hH.below
  (rw [letterB, Bool.eq_iff_iff]; simp only [decide_eq_true_eq, Bool.false_eq_true, false_iff]; omega)

theorem c_name_goes (c : Int) (w : World) : Calls Tryz.prog 80 #[.int .u8 c] w (Pure (B (goesB c)) w) := by
 refine enter Tryz.func80 rfl Tryz.ntmps80 rfl ?_
 have hH := Hp.start w
 refine SR ?_
 refine V (aV (B false) rfl) ?_
 refine RL.nil ?_
 refine SR ?_
 refine V (mV (.int _ _) rfl) ?_
 refine RL.callP rfl hH (c_name_letter _  _) (run_call1 call79 rfl) ?_
 intro w1 hH2
 refine V (mV (B _) rfl) ?_
 refine RL.split (dj := 5) rfl (fun h4 => ?_) (fun h4 => ?_)
 ·refine RL.gF rfl rfl (bR (c := true) h4) rfl ?_
  refine RL.gF rfl rfl (bR (c := true) h4) rfl ?_
  refine RL.gF rfl rfl (bR (c := true) h4) rfl ?_
  refine RL.gU rfl rfl rfl ?_
  refine RL.gU rfl rfl rfl ?_
  refine RL.gF rfl rfl (bR (c := true) h4) rfl ?_
  refine V (run_pickT (bR (c := true) h4) (v := B true) rfl) ?_
  refine V (mV (B _) rfl) ?_
  refine RL.gF rfl rfl rfl rfl ?_
  refine RL.gF rfl rfl rfl rfl ?_
  refine V (run_pickT rfl (v := B true) rfl) ?_
  refine V (aV (B _) rfl) ?_
  refine RL.nil ?_
  refine CW.ret ?_
  refine outP1 Tryz.results80 (congrArg B ?_) hH2.below
  first | exact (goes_letter ‹_›).symm | (have hlc := ‹letterB c = false›; rw [letterB, decide_eq_false_iff_not] at hlc; rw [goesB, Bool.eq_iff_iff]; simp only [decide_eq_true_eq, Bool.false_eq_true, false_iff, true_iff]; omega)
 ·refine RL.gT rfl (bR (c := false) h4) ?_
  refine V (mV (.int _ _) rfl) ?_
  refine RL.gT rfl (bR (c := false) h4) ?_
  refine V (run_geq rfl rfl) ?_
  refine RL.gT rfl (bR (c := false) h4) ?_
  refine V (mV (B _) rfl) ?_
  refine RL.splitP (dj := 8) rfl (fun h6 => ?_) (fun h6 => ?_)
  ·refine RL.gT rfl (bT h6) ?_
   refine V (mV (.int _ _) rfl) ?_
   refine RL.gT rfl (bT h6) ?_
   refine V (run_leq rfl rfl) ?_
   refine RL.gT rfl (bR (c := false) h4) ?_
   refine V (run_pickT (bT h6) (v := B _) rfl) ?_
   refine V (run_pickF (bR (c := false) h4) (v := B _) rfl) ?_
   refine V (mV (B _) rfl) ?_
   refine RL.splitP (dj := 13) rfl (fun h8 => ?_) (fun h8 => ?_)
   ·refine RL.gF rfl rfl (bT h8) rfl ?_
    refine RL.gF rfl rfl (bT h8) rfl ?_
    refine V (run_pickT (bT h8) (v := B true) rfl) ?_
    refine V (aV (B _) rfl) ?_
    refine RL.nil ?_
    refine CW.ret ?_
    refine outP1 Tryz.results80 (congrArg B ?_) hH2.below
    first | exact (goes_letter ‹_›).symm | (have hlc := ‹letterB c = false›; rw [letterB, decide_eq_false_iff_not] at hlc; rw [goesB, Bool.eq_iff_iff]; simp only [decide_eq_true_eq, Bool.false_eq_true, false_iff, true_iff]; omega)
   ·refine RL.gT rfl (bF h8) ?_
    refine V (mV (.int _ _) rfl) ?_
    refine RL.gT rfl (bF h8) ?_
    refine V (run_eql rfl rfl) ?_
    refine V (run_pickF (bF h8) (v := B _) rfl) ?_
    refine V (aV (B _) rfl) ?_
    refine RL.nil ?_
    refine CW.ret ?_
    refine outP1 Tryz.results80 (congrArg B ?_) hH2.below
    first | exact (goes_letter ‹_›).symm | (have hlc := ‹letterB c = false›; rw [letterB, decide_eq_false_iff_not] at hlc; rw [goesB, Bool.eq_iff_iff]; simp only [decide_eq_true_eq, Bool.false_eq_true, false_iff, true_iff]; omega)
  ·refine RL.gF rfl rfl (bF h6) rfl ?_
   refine RL.gF rfl rfl (bF h6) rfl ?_
   refine RL.gT rfl (bR (c := false) h4) ?_
   refine V (run_pickF (bF h6) (v := B false) rfl) ?_
   refine V (run_pickF (bR (c := false) h4) (v := B _) rfl) ?_
   refine V (mV (B _) rfl) ?_
   refine RL.gT rfl rfl ?_
   refine V (mV (.int _ _) rfl) ?_
   refine RL.gT rfl rfl ?_
   refine V (run_eql rfl rfl) ?_
   refine V (run_pickF rfl (v := B _) rfl) ?_
   refine V (aV (B _) rfl) ?_
   refine RL.nil ?_
   refine CW.ret ?_
   refine outP1 Tryz.results80 (congrArg B ?_) hH2.below
   first | exact (goes_letter ‹_›).symm | (have hlc := ‹letterB c = false›; rw [letterB, decide_eq_false_iff_not] at hlc; rw [goesB, Bool.eq_iff_iff]; simp only [decide_eq_true_eq, Bool.false_eq_true, false_iff, true_iff]; omega)

theorem c_name_Right (s : Tx) (w : World) : Calls Tryz.prog 55 #[S s] w (Pure (B (nameR s)) w) := by
 have htx := @tx_nil s
 refine enter Tryz.func55 rfl Tryz.ntmps55 rfl ?_
 have hH := Hp.start w
 refine SR ?_
 refine V (aV (B false) rfl) ?_
 refine RL.nil ?_
 refine CW.seq ?_
 refine SR ?_
 refine V (mV (.string _) rfl) ?_
 refine V (run_eqlS rfl rfl) ?_
 refine V (mV (B _) rfl) ?_
 refine RL.splitP (dj := 6) rfl (fun h2 => ?_) (fun h2 => ?_)
 ·refine RL.gF rfl rfl (bT h2) rfl ?_
  refine RL.gF rfl rfl (bT h2) rfl ?_
  refine RL.gF rfl rfl (bT h2) rfl ?_
  refine V (run_pickT (bT h2) (v := B true) rfl) ?_
  refine V (mV (B _) rfl) ?_
  refine RL.gF rfl rfl rfl rfl ?_
  refine RL.gF rfl rfl rfl rfl ?_
  refine RL.gF rfl rfl rfl rfl ?_
  refine RL.gF rfl rfl rfl rfl ?_
  refine V (run_pickT rfl (v := B true) rfl) ?_
  refine RL.nil ?_
  refine CW.condT rfl ?_
  refine SR ?_
  refine V (aV (B false) rfl) ?_
  refine RL.nil ?_
  refine CW.ret ?_
  refine outP1 Tryz.results55 (congrArg B ?_) hH.below
  first | exact (nameR_no1 (by first | omega | (have := htx.1 ‹s = tx0›; omega))).symm | exact (nameR_no2 (nt ‹_›)).symm | exact (nameR_no3 h0 ‹_› (nt ‹_›)).symm | exact (nameR_yes hsz (nf ‹_›) ‹_› hf).symm
 ·refine RL.gT rfl (bF h2) ?_
  refine V (mV (.string _) rfl) ?_
  refine RL.gT rfl (bF h2) ?_
  refine V (run_lenStr rfl underlying9 rfl) ?_
  refine RL.gT rfl (bF h2) ?_
  refine V (run_gtr rfl rfl) ?_
  refine V (run_pickF (bF h2) (v := B _) rfl) ?_
  refine V (mV (B _) rfl) ?_
  refine RL.splitP (dj := 11) rfl (fun h4 => ?_) (fun h4 => ?_)
  ·refine RL.gF rfl rfl (bT h4) rfl ?_
   refine RL.gF rfl rfl (bT h4) rfl ?_
   refine RL.gF rfl rfl (bT h4) rfl ?_
   refine RL.gF rfl rfl (bT h4) rfl ?_
   refine V (run_pickT (bT h4) (v := B true) rfl) ?_
   refine RL.nil ?_
   refine CW.condT rfl ?_
   refine SR ?_
   refine V (aV (B false) rfl) ?_
   refine RL.nil ?_
   refine CW.ret ?_
   refine outP1 Tryz.results55 (congrArg B ?_) hH.below
   first | exact (nameR_no1 (by first | omega | (have := htx.1 ‹s = tx0›; omega))).symm | exact (nameR_no2 (nt ‹_›)).symm | exact (nameR_no3 h0 ‹_› (nt ‹_›)).symm | exact (nameR_yes hsz (nf ‹_›) ‹_› hf).symm
  ·refine RL.gT rfl (bF h4) ?_
   refine V (mV (.string _) rfl) ?_
   refine RL.gT rfl (bF h4) ?_
   refine V (run_idxS underlying9 rfl rfl (by first | omega | (have := mt htx.2 ‹¬ s = tx0›; omega))) ?_
   refine RL.gT rfl (bF h4) ?_
   refine RL.callP rfl hH (c_name_letter _  _) (run_call1 call79 rfl) ?_
   intro w5 hH6
   refine RL.gT rfl (bF h4) ?_
   refine V (run_not rfl) ?_
   refine V (run_pickF (bF h4) (v := B _) rfl) ?_
   refine RL.nil ?_
   refine CW.cond rfl (fun h9 => ?_) (fun h9 => ?_)
   ·refine SR ?_
    refine V (aV (B false) rfl) ?_
    refine RL.nil ?_
    refine CW.ret ?_
    refine outP1 Tryz.results55 (congrArg B ?_) hH6.below
    first | exact (nameR_no1 (by first | omega | (have := htx.1 ‹s = tx0›; omega))).symm | exact (nameR_no2 (nt ‹_›)).symm | exact (nameR_no3 h0 ‹_› (nt ‹_›)).symm | exact (nameR_yes hsz (nf ‹_›) ‹_› hf).symm
   ·refine CW.skip ?_
    refine CW.seq ?_
    refine SR ?_
    refine V (mV (.string _) rfl) ?_
    refine V (run_lenStr rfl underlying9 rfl) ?_
    refine V (mV (I 0) rfl) ?_
    refine RL.nil ?_
    refine CW.block ?_
    have hsz : 1 ≤ s.size ∧ s.size ≤ 16 := ⟨by have := mt htx.2 ‹¬ s = tx0›; omega, by omega⟩
    refine CW.loop (G := (Int)) (fun (k : Int) s' w' => (Fr [2, 3, 19, 20, 21, 22, 23, 24, 25, 26, 27] _ s') ∧ (Hp w w' _) ∧ (s' 19 = I k) ∧ (0 ≤ k) ∧ (k ≤ s.size) ∧ (∀ j : Int, 0 ≤ j → j < k → goesB (byteAt s j) = true)) (fun (k : Int) => (s.size - k).toNat) (0) ⟨Fr.refl _ _, hH6, rfl, (by omega), (by omega), fun j a b => absurd b (by omega)⟩ ?_
    rintro k sg10 w10 ⟨fr10, hH10, e19_10, h0, hk, hf⟩
    have e0_10 : sg10 0 = .string _ := (fr10 0 rfl).trans rfl
    have e18_10 : sg10 18 = I _ := (fr10 18 rfl).trans rfl
    refine SR ?_
    refine V (run_lss e19_10 e18_10) ?_
    refine RL.nil ?_
    refine CW.seq ?_
    refine CW.condP rfl (fun h12 => ?_) (fun h12 => ?_)
    ·refine CW.skip ?_
     refine CW.seq ?_
     refine CW.block ?_
     refine SR ?_
     refine V (run_move e19_10) ?_
     refine V (aV (I _) rfl) ?_
     refine RL.nil ?_
     refine SR ?_
     refine V (run_move e0_10) ?_
     refine V (mV (I _) rfl) ?_
     refine V (run_idxS underlying9 rfl rfl (by first | omega | (have := mt htx.2 ‹¬ s = tx0›; omega))) ?_
     refine RL.callP rfl hH10 (c_name_goes _  _) (run_call1 call80 rfl) ?_
     intro w13 hH14
     refine V (run_not rfl) ?_
     refine RL.nil ?_
     refine CW.cond rfl (fun h17 => ?_) (fun h17 => ?_)
     ·refine SR ?_
      refine V (aV (B false) rfl) ?_
      refine RL.nil ?_
      refine CW.ret ?_
      refine outP1 Tryz.results55 (congrArg B ?_) hH14.below
      first | exact (nameR_no1 (by first | omega | (have := htx.1 ‹s = tx0›; omega))).symm | exact (nameR_no2 (nt ‹_›)).symm | exact (nameR_no3 h0 ‹_› (nt ‹_›)).symm | exact (nameR_yes hsz (nf ‹_›) ‹_› hf).symm
     ·refine CW.skip ?_
      refine CW.region ?_
      refine V (run_add e19_10 rfl (by omega)) ?_
      refine V (mV (I _) rfl) ?_
      refine RL.nil ?_
      refine ⟨k + 1, ?_, fr10.u4.u4.u1.u1, hH14, (congrArg I (by first | rfl | omega)), ?_, ?_, ?_⟩
      ·((try dsimp only); omega)
      ·omega
      ·omega
      ·exact fun j a b => if e : j = k then e ▸ nf ‹_› else hf j a (by omega)
    ·refine CW.exit (id := 0) rfl ?_
     refine SR ?_
     refine V (aV (B true) rfl) ?_
     refine RL.nil ?_
     refine CW.ret ?_
     refine outP1 Tryz.results55 (congrArg B ?_) hH10.below
     first | exact (nameR_no1 (by first | omega | (have := htx.1 ‹s = tx0›; omega))).symm | exact (nameR_no2 (nt ‹_›)).symm | exact (nameR_no3 h0 ‹_› (nt ‹_›)).symm | exact (nameR_yes hsz (nf ‹_›) ‹_› hf).symm

theorem c_name_place (n : Int) (f : FuncId) (cs : List Value) (P : Int → Bool) (hn : 0 ≤ n ∧ n ≤ 9223372036854775807) (w : World) (hf : ∀ args w, (callFunc f args).run Tryz.prog w = .ok (.enter f args) w) (go : ∀ i w', Below w.heap.size w w' → 0 ≤ i → i < n → Calls Tryz.prog f (I i :: cs).toArray w' (Pure (B (P i)) w')) : Calls Tryz.prog 151 #[I 0, I n, .func (.func f) #[] cs.toArray] w (Pure (I (findV P n)) w) := by
 refine enter Tryz.func151 rfl Tryz.ntmps151 rfl ?_
 have hH := Hp.start w
 refine SR ?_
 refine V (aV (I 0) rfl) ?_
 refine RL.nil ?_
 refine CW.seq ?_
 refine SR ?_
 refine V (mV (I _) rfl) ?_
 refine V (aV (I _) rfl) ?_
 refine RL.nil ?_
 refine CW.block ?_
 refine CW.loop (G := (Int)) (fun (k : Int) s' w' => (Fr [6, 7, 9, 10, 11, 12, 13, 14, 15, 16, 17] _ s') ∧ (Hp w w' _) ∧ (s' 7 = I k) ∧ (0 ≤ k) ∧ (k ≤ n) ∧ (∀ j : Int, 0 ≤ j → j < k → P j = false)) (fun (k : Int) => (n - k).toNat) (0) ⟨Fr.refl _ _, hH, rfl, (by omega), (by omega), fun j a b => absurd b (by omega)⟩ ?_
 rintro k sg1 w1 ⟨fr1, hH1, e7_1, h0, hk, hg⟩
 have e1_1 : sg1 1 = I _ := (fr1 1 rfl).trans rfl
 have e2_1 : sg1 2 = .func _ _ _ := (fr1 2 rfl).trans rfl
 refine CW.seq ?_
 refine SR ?_
 refine V (run_move e7_1) ?_
 refine V (run_move e1_1) ?_
 refine V (run_lss rfl rfl) ?_
 refine RL.nil ?_
 refine CW.condP rfl (fun h3 => ?_) (fun h3 => ?_)
 ·refine CW.skip ?_
  refine CW.seq ?_
  refine CW.block ?_
  refine SR ?_
  refine V (run_move e2_1) ?_
  refine V (run_move e7_1) ?_
  refine RL.callP rfl hH1 (go _ _ hH1.below (by omega) (by omega)) (run_callC1 hf (cs := cs) rfl rfl) ?_
  intro w4 hH5
  refine RL.nil ?_
  refine CW.cond rfl (fun h7 => ?_) (fun h7 => ?_)
  ·refine SR ?_
   refine V (run_move e7_1) ?_
   refine V (aV (I _) rfl) ?_
   refine RL.nil ?_
   refine CW.ret ?_
   refine outP1 Tryz.results151 (congrArg I ?_) hH5.below
   first | exact (find_yes h0 ‹_› ‹_› hg).symm | exact (find_no fun j a b => hg j a (by omega)).symm
  ·refine CW.skip ?_
   refine CW.region ?_
   refine V (run_move e7_1) ?_
   refine V (run_add rfl rfl (by omega)) ?_
   refine V (aV (I _) rfl) ?_
   refine RL.nil ?_
   refine ⟨k + 1, ?_, fr1.u4.u4.u1, hH5, (congrArg I (by first | rfl | omega)), ?_, ?_, ?_⟩
   ·((try dsimp only); omega)
   ·omega
   ·omega
   ·exact fun j a b => if e : j = k then e ▸ ‹P k = false› else hg j a (by omega)
 ·refine CW.exit (id := 0) rfl ?_
  refine SR ?_
  refine V (aV (I (-1)) rfl) ?_
  refine RL.nil ?_
  refine CW.ret ?_
  refine outP1 Tryz.results151 (congrArg I ?_) hH1.below
  first | exact (find_yes h0 ‹_› ‹_› hg).symm | exact (find_no fun j a b => hg j a (by omega)).symm

theorem c_name_Find_1 (b c : Nat) (v : Value) (l : List Tx) (s : Tx) (i : Int) (hi : 0 ≤ i ∧ i < l.length) (w : World) (hs : Sl w v 1 l.length (txL l)) (hb : w.heap[b]? = some (.cells #[v] 54 (0, 0))) (hc : w.heap[c]? = some (.cells #[S s] 9 (0, 0))) : Calls Tryz.prog 161 #[I i, .pointer (some ⟨b, 0, none⟩), .pointer (some ⟨c, 0, none⟩)] w (Pure (B (decide (l.getD i.toNat tx0 = s))) w) := by
 have hm := hs.small
 unfold maxLen at hm
 refine enter Tryz.func161 rfl Tryz.ntmps161 rfl ?_
 have hH := Hp.start w
 refine SR ?_
 refine V (aV (B false) rfl) ?_
 refine RL.nil ?_
 refine CW.seq ?_
 refine CW.regionD (by kernel_rfl) hH ?_
 intro w1 hH2
 refine AT 0 rfl (hH2.sub sR) (fun w hS => run_ld underlying54 rfl rfl (hS.extCell hb rfl)) ?_
 refine AT 1 rfl (hH2.sub sR) (fun w hS => mV (I _) rfl) ?_
 refine AT 2 rfl (hH2.sub sR) (fun w hS => run_indexAddrS (hs.hp hS) underlying54 sizeOf9 rfl rfl (by omega)) ?_
 refine AT 3 rfl (hH2.sub sR) (fun w hS => run_ld underlying9 rfl rfl ((hs.hp hS).cell _ _ (txL_at (by omega)))) ?_
 refine AT 4 rfl (hH2.sub sR) (fun w hS => run_ld underlying9 rfl rfl (hS.extCell hc (v := .string _) rfl)) ?_
 refine AT 5 rfl (hH2.sub sR) (fun w hS => run_eqlS rfl rfl) ?_
 refine AT 6 rfl (hH2.sub sR) (fun w hS => aV (B _) rfl) ?_
 refine AD ?_
 refine CW.ret ?_
 refine outP1 Tryz.results161 (congrArg B ?_) hH2.below
 rfl

theorem c_name_Find (v : Value) (l : List Tx) (s : Tx) (w : World) (hs : Sl w v 1 l.length (txL l)) : Calls Tryz.prog 153 #[v, S s] w (Pure (I (nfind l s)) w) := by
 have hm := hs.small
 unfold maxLen at hm
 refine enter Tryz.func153 rfl Tryz.ntmps153 rfl ?_
 have hH := Hp.start w
 refine SR ?_
 refine RL.new rfl hH (f := fun b => (.pointer (some ⟨b, 0, none⟩))) (run_box (by conv => lhs; whnf)) ?_
 intro b3 w1 hH2
 rw [(one_sl hs).2] at hH2
 refine RL.new rfl hH2 (f := fun b => (.pointer (some ⟨b, 0, none⟩))) (run_box (v := .string _) rfl) ?_
 intro b6 w4 hH5
 refine V (aV (I 0) rfl) ?_
 refine RL.nil ?_
 refine SR ?_
 refine V (run_ld underlying54 rfl rfl (hH5.cell (i := 1) rfl rfl)) ?_
 refine V (run_lenSl (hs.hp hH5) rfl underlying54 rfl) ?_
 refine V (run_mkF2 (by conv => lhs; whnf) (by conv => lhs; whnf)) ?_
 refine RL.callP rfl hH5 (c_name_place _ 161 [.pointer (some ⟨b3, 0, none⟩), .pointer (some ⟨b6, 0, none⟩)] (fun i => decide (l.getD i.toNat tx0 = s)) (by omega) _ call161 (fun i w h h0 h1 => c_name_Find_1 b3 b6 v l s i ⟨h0, h1⟩ w ((hs.hp hH5).below h) (keep h (hH5.blk (i := 1) rfl)) (keep h (hH5.blk (i := 0) rfl)))) (run_call3 call151 (show _ = I 0 from rfl) rfl rfl) ?_
 intro w7 hH8
 refine V (aV (I _) rfl) ?_
 refine RL.nil ?_
 refine CW.ret ?_
 refine outP1 Tryz.results153 (congrArg I ?_) hH8.below
 rfl

theorem c_name_Twice_1 (b : Nat) (v : Value) (l : List Tx) (i : Int) (hi : 0 ≤ i ∧ i < l.length) (w : World) (hs : Sl w v 1 l.length (txL l)) (hb : w.heap[b]? = some (.cells #[v] 54 (0, 0))) : Calls Tryz.prog 152 #[I i, .pointer (some ⟨b, 0, none⟩)] w (Pure (B (decide (nfind l (l.getD i.toNat tx0) < i))) w) := by
 have hm := hs.small
 unfold maxLen at hm
 refine enter Tryz.func152 rfl Tryz.ntmps152 rfl ?_
 have hH := Hp.start w
 refine SR ?_
 refine V (aV (B false) rfl) ?_
 refine RL.nil ?_
 refine CW.seq ?_
 refine CW.regionD (by kernel_rfl) hH ?_
 intro w1 hH2
 refine AT 0 rfl (hH2.sub sR) (fun w hS => run_ld underlying54 rfl rfl (hS.extCell hb rfl)) ?_
 refine AT 1 rfl (hH2.sub sR) (fun w hS => mV (I _) rfl) ?_
 refine AT 3 rfl (hH2.sub sR) (fun w hS => run_ld underlying54 rfl rfl (hS.extCell hb rfl)) ?_
 refine AT 4 rfl (hH2.sub sR) (fun w hS => mV (I _) rfl) ?_
 refine AT 5 rfl (hH2.sub sR) (fun w hS => run_indexAddrS (hs.hp hS) underlying54 sizeOf9 rfl rfl (by omega)) ?_
 refine AT 6 rfl (hH2.sub sR) (fun w hS => run_ld underlying9 rfl rfl ((hs.hp hS).cell _ _ (txL_at (by omega)))) ?_
 refine A1 2 ?_
 refine AO.read rfl gnone rfl hH2 sR (run_cut (hs.hp hH2) underlying54 sizeOf9 rfl rfl (by omega)) ?_
 refine A1 7 ?_
 refine AO.callP rfl gnone rfl hH2 sR (c_name_Find _ _ _  _ ((hs.hp hH2).cutT (by omega))) (run_call2 call153 rfl rfl) ?_
 intro w5 hH6
 refine AT 8 rfl (hH6.sub sR) (fun w hS => run_geq rfl rfl) ?_
 refine AT 9 rfl (hH6.sub sR) (fun w hS => aV (B _) rfl) ?_
 refine AD ?_
 refine CW.ret ?_
 refine outP1 Tryz.results152 (congrArg B ?_) hH6.below
 exact tx_ahead hi.1 hi.2

theorem c_name_Twice (v : Value) (l : List Tx) (w : World) (hs : Sl w v 1 l.length (txL l)) : Calls Tryz.prog 129 #[v] w (Pure (I (twice l)) w) := by
 have hm := hs.small
 unfold maxLen at hm
 refine enter Tryz.func129 rfl Tryz.ntmps129 rfl ?_
 have hH := Hp.start w
 refine SR ?_
 refine RL.new rfl hH (f := fun b => (.pointer (some ⟨b, 0, none⟩))) (run_box (by conv => lhs; whnf)) ?_
 intro b3 w1 hH2
 rw [(one_sl hs).2] at hH2
 refine V (aV (I 0) rfl) ?_
 refine RL.nil ?_
 refine SR ?_
 refine V (run_ld underlying54 rfl rfl (hH2.cell (i := 0) rfl rfl)) ?_
 refine V (run_lenSl (hs.hp hH2) rfl underlying54 rfl) ?_
 refine V (run_mkF1 (by conv => lhs; whnf)) ?_
 refine RL.callP rfl hH2 (c_name_place _ 152 [.pointer (some ⟨b3, 0, none⟩)] (fun i => decide (nfind l (l.getD i.toNat tx0) < i)) (by omega) _ call152 (fun i w h h0 h1 => c_name_Twice_1 b3 v l i ⟨h0, h1⟩ w ((hs.hp hH2).below h) (keep h (hH2.blk (i := 0) rfl)))) (run_call3 call151 (show _ = I 0 from rfl) rfl rfl) ?_
 intro w4 hH5
 refine V (aV (I _) rfl) ?_
 refine RL.nil ?_
 refine CW.ret ?_
 refine outP1 Tryz.results129 (congrArg I ?_) hH5.below
 rfl

theorem c_shape_named (v : Value) (l : List Tx) (w : World) (hs : Sl w v 1 l.length (txL l)) : Calls Tryz.prog 100 #[v] w (Pure (B (namedF l)) w) := by
 have hm := hs.small
 unfold maxLen at hm
 refine enter Tryz.func100 rfl Tryz.ntmps100 rfl ?_
 have hH := Hp.start w
 refine SR ?_
 refine V (aV (B false) rfl) ?_
 refine RL.nil ?_
 refine CW.seq ?_
 refine SR ?_
 refine V (run_move (by conv => lhs; whnf)) ?_
 refine V (run_lenSl (hs.hp hH) rfl underlying54 rfl) ?_
 refine V (run_lss rfl rfl) ?_
 refine V (mV (B _) rfl) ?_
 refine RL.splitP (dj := 8) rfl (fun h2 => ?_) (fun h2 => ?_)
 ·refine RL.gF rfl rfl (bT h2) rfl ?_
  refine RL.gF rfl rfl (bT h2) rfl ?_
  refine RL.gF rfl rfl (bT h2) rfl ?_
  refine V (run_pickT (bT h2) (v := B true) rfl) ?_
  refine V (mV (B _) rfl) ?_
  refine RL.gF rfl rfl rfl rfl ?_
  refine RL.gF rfl rfl rfl rfl ?_
  refine RL.gF rfl rfl rfl rfl ?_
  refine V (run_pickT rfl (v := B true) rfl) ?_
  refine RL.nil ?_
  refine CW.condT rfl ?_
  refine SR ?_
  refine V (aV (B false) rfl) ?_
  refine RL.nil ?_
  refine CW.ret ?_
  refine outP1 Tryz.results100 (congrArg B ?_) hH.below
  first | exact (named_no3 h0 ‹_› (nt ‹_›)).symm | exact (named_yes hn1 hn2 ‹_› hg).symm | exact (named_no1 (by omega)).symm | exact (named_no2 (by omega)).symm
 ·refine RL.gT rfl (bF h2) ?_
  refine V (run_move (by conv => lhs; whnf)) ?_
  refine RL.gT rfl (bF h2) ?_
  refine V (run_lenSl (hs.hp hH) rfl underlying54 rfl) ?_
  refine RL.gT rfl (bF h2) ?_
  refine V (run_gtr rfl rfl) ?_
  refine V (run_pickF (bF h2) (v := B _) rfl) ?_
  refine V (mV (B _) rfl) ?_
  refine RL.splitP (dj := 13) rfl (fun h4 => ?_) (fun h4 => ?_)
  ·refine RL.gF rfl rfl (bT h4) rfl ?_
   refine RL.gF rfl rfl (bT h4) rfl ?_
   refine RL.gF rfl rfl (bT h4) rfl ?_
   refine V (run_pickT (bT h4) (v := B true) rfl) ?_
   refine RL.nil ?_
   refine CW.condT rfl ?_
   refine SR ?_
   refine V (aV (B false) rfl) ?_
   refine RL.nil ?_
   refine CW.ret ?_
   refine outP1 Tryz.results100 (congrArg B ?_) hH.below
   first | exact (named_no3 h0 ‹_› (nt ‹_›)).symm | exact (named_yes hn1 hn2 ‹_› hg).symm | exact (named_no1 (by omega)).symm | exact (named_no2 (by omega)).symm
  ·refine RL.gT rfl (bF h4) ?_
   refine V (run_move (by conv => lhs; whnf)) ?_
   refine RL.gT rfl (bF h4) ?_
   refine RL.callP rfl hH (c_name_Twice _ _  _ (hs.hp hH)) (run_call1 call129 rfl) ?_
   intro w5 hH6
   refine RL.gT rfl (bF h4) ?_
   refine V (run_geq rfl rfl) ?_
   refine V (run_pickF (bF h4) (v := B _) rfl) ?_
   refine RL.nil ?_
   refine CW.condP rfl (fun h8 => ?_) (fun h8 => ?_)
   ·refine SR ?_
    refine V (aV (B false) rfl) ?_
    refine RL.nil ?_
    refine CW.ret ?_
    refine outP1 Tryz.results100 (congrArg B ?_) hH6.below
    first | exact (named_no3 h0 ‹_› (nt ‹_›)).symm | exact (named_yes hn1 hn2 ‹_› hg).symm | exact (named_no1 (by omega)).symm | exact (named_no2 (by omega)).symm
   ·refine CW.skip ?_
    refine CW.seq ?_
    refine SR ?_
    refine V (run_move (by conv => lhs; whnf)) ?_
    refine V (run_lenSl (hs.hp hH6) rfl underlying54 rfl) ?_
    refine V (mV (I 0) rfl) ?_
    refine RL.nil ?_
    refine CW.block ?_
    have hn1 : 1 ≤ l.length ∧ l.length ≤ 64 := by omega
    have hn2 : twice l < 0 := by omega
    refine CW.loop (G := (Int)) (fun (k : Int) s' w' => (Fr [2, 4, 20, 21, 22, 23, 24, 25, 26, 27] _ s') ∧ (Hp w w' _) ∧ (s' 20 = I k) ∧ (0 ≤ k) ∧ (k ≤ l.length) ∧ (∀ j : Int, 0 ≤ j → j < k → nameR (l.getD j.toNat tx0) = true)) (fun (k : Int) => (l.length - k).toNat) (0) ⟨Fr.refl _ _, hH6, rfl, (by omega), (by omega), fun j a b => absurd b (by omega)⟩ ?_
    rintro k sg9 w9 ⟨fr9, hH9, e20_9, h0, hk, hg⟩
    have e18_9 := (fr9 18 rfl).trans (by conv => lhs; whnf)
    have e19_9 : sg9 19 = I _ := (fr9 19 rfl).trans rfl
    refine SR ?_
    refine V (run_lss e20_9 e19_9) ?_
    refine RL.nil ?_
    refine CW.seq ?_
    refine CW.condP rfl (fun h11 => ?_) (fun h11 => ?_)
    ·refine CW.skip ?_
     refine CW.seq ?_
     refine CW.block ?_
     refine SR ?_
     refine V (run_indexAddrS (hs.hp hH9) underlying54 sizeOf9 e18_9 e20_9 (by omega)) ?_
     refine V (run_ld underlying9 rfl rfl ((hs.hp hH9).cell _ _ (txL_at (by omega)))) ?_
     refine V (aV (.string _) rfl) ?_
     refine RL.nil ?_
     refine SR ?_
     refine V (mV (.string _) rfl) ?_
     refine RL.callP rfl hH9 (c_name_Right _  _) (run_call1 call55 rfl) ?_
     intro w12 hH13
     refine V (run_not rfl) ?_
     refine RL.nil ?_
     refine CW.cond rfl (fun h16 => ?_) (fun h16 => ?_)
     ·refine SR ?_
      refine V (aV (B false) rfl) ?_
      refine RL.nil ?_
      refine CW.ret ?_
      refine outP1 Tryz.results100 (congrArg B ?_) hH13.below
      first | exact (named_no3 h0 ‹_› (nt ‹_›)).symm | exact (named_yes hn1 hn2 ‹_› hg).symm | exact (named_no1 (by omega)).symm | exact (named_no2 (by omega)).symm
     ·refine CW.skip ?_
      refine CW.region ?_
      refine V (run_add e20_9 rfl (by omega)) ?_
      refine V (mV (I _) rfl) ?_
      refine RL.nil ?_
      refine ⟨k + 1, ?_, fr9.u4.u4.u1, hH13, (congrArg I (by first | rfl | omega)), ?_, ?_, ?_⟩
      ·((try dsimp only); omega)
      ·omega
      ·omega
      ·exact fun j a b => if e : j = k then e ▸ nf ‹_› else hg j a (by omega)
    ·refine CW.exit (id := 0) rfl ?_
     refine SR ?_
     refine V (aV (B true) rfl) ?_
     refine RL.nil ?_
     refine CW.ret ?_
     refine outP1 Tryz.results100 (congrArg B ?_) hH9.below
     first | exact (named_no3 h0 ‹_› (nt ‹_›)).symm | exact (named_yes hn1 hn2 ‹_› hg).symm | exact (named_no1 (by omega)).symm | exact (named_no2 (by omega)).symm

theorem c_shape_factor (f : Fac) (w : World) (hf : FacV (Kw w) f) (hT : Tab w) : Calls Tryz.prog 74 #[.agg (facC f)] w (Pure (B (factorR f.fc)) w) := by
 have hm := hf.names.sl.small
 unfold maxLen at hm
 refine enter Tryz.func74 rfl Tryz.ntmps74 rfl ?_
 have hH := Hp.start w
 refine SR ?_
 refine RL.new rfl hH (f := fun b => (.pointer (some ⟨b, 0, none⟩))) (run_box (v := .agg _) rfl) ?_
 intro b3 w1 hH2
 refine V (aV (B false) rfl) ?_
 refine RL.nil ?_
 refine CW.seq ?_
 refine SR ?_
 refine V (fA underlying59 1 rfl sizeOf54 rfl) ?_
 refine V (run_ld underlying54 rfl rfl (hH2.cell (i := 0) rfl rfl)) ?_
 refine RL.callP rfl hH2 (c_shape_named _ _  _ (hf.names.sl.hp hH2)) (run_call1 call100 rfl) ?_
 intro w4 hH5
 refine V (run_not rfl) ?_
 refine RL.nil ?_
 refine CW.cond rfl (fun h8 => ?_) (fun h8 => ?_)
 ·refine SR ?_
  refine V (aV (B false) rfl) ?_
  refine RL.nil ?_
  refine CW.ret ?_
  refine outP1 Tryz.results74 (congrArg B ?_) hH5.below
  first | exact (fac_no (f := f.fc) (nt ‹_›)).symm | exact (fac_12s (f := f.fc) (nf ‹(!namedF f.names) = false›) (.inl ‹_›)).symm | exact (fac_12s (f := f.fc) (nf ‹(!namedF f.names) = false›) (.inr ‹_›)).symm | exact (fac_3y (f := f.fc) (nf ‹(!namedF f.names) = false›) ‹_› ‹_›).symm | exact (fac_3n (f := f.fc) ‹_› ‹_›).symm | exact (fac_4y (f := f.fc) (nf ‹(!namedF f.names) = false›) ‹_› ‹_›).symm | exact (fac_4n (f := f.fc) ‹_› ‹_›).symm | exact (fac_x (f := f.fc) ‹_› ‹_› ‹_› ‹_›).symm
 ·refine CW.skip ?_
  refine CW.seq ?_
  refine SR ?_
  refine V (fA underlying59 0 rfl sizeOf3 rfl) ?_
  refine V (run_ld underlying3 rfl rfl (hH5.cell (i := 0) rfl (v := I _) rfl)) ?_
  refine RL.nil ?_
  refine CW.block ?_
  refine CW.seq ?_
  refine SR ?_
  refine V (run_eql rfl rfl) ?_
  refine V (aV (B _) rfl) ?_
  refine RL.nil ?_
  refine CW.condP rfl (fun h10 => ?_) (fun h10 => ?_)
  ·refine CW.skip ?_
   refine CW.condT (bT h10) ?_
   refine SR ?_
   refine V (fA underlying59 2 rfl sizeOf57 rfl) ?_
   refine V (run_ldBR underlying57 rfl rfl rfl (hH5.blk (i := 0) rfl)) ?_
   refine V (run_bld (vs := []) rfl built_rel0) ?_
   refine RL.callP rfl hH5 (c_relate_Same _ _  _) (run_call2 call101 rfl rfl) ?_
   intro w11 hH12
   refine V (aV (B _) rfl) ?_
   refine RL.nil ?_
   refine CW.ret ?_
   refine outP1 Tryz.results74 (congrArg B ?_) hH12.below
   first | exact (fac_no (f := f.fc) (nt ‹_›)).symm | exact (fac_12s (f := f.fc) (nf ‹(!namedF f.names) = false›) (.inl ‹_›)).symm | exact (fac_12s (f := f.fc) (nf ‹(!namedF f.names) = false›) (.inr ‹_›)).symm | exact (fac_3y (f := f.fc) (nf ‹(!namedF f.names) = false›) ‹_› ‹_›).symm | exact (fac_3n (f := f.fc) ‹_› ‹_›).symm | exact (fac_4y (f := f.fc) (nf ‹(!namedF f.names) = false›) ‹_› ‹_›).symm | exact (fac_4n (f := f.fc) ‹_› ‹_›).symm | exact (fac_x (f := f.fc) ‹_› ‹_› ‹_› ‹_›).symm
  ·refine CW.region ?_
   refine V (run_eql rfl rfl) ?_
   refine V (aV (B _) rfl) ?_
   refine RL.nil ?_
   refine CW.condP rfl (fun h16 => ?_) (fun h16 => ?_)
   ·refine SR ?_
    refine V (fA underlying59 2 rfl sizeOf57 rfl) ?_
    refine V (run_ldBR underlying57 rfl rfl rfl (hH5.blk (i := 0) rfl)) ?_
    refine V (run_bld (vs := []) rfl built_rel0) ?_
    refine RL.callP rfl hH5 (c_relate_Same _ _  _) (run_call2 call101 rfl rfl) ?_
    intro w17 hH18
    refine V (aV (B _) rfl) ?_
    refine RL.nil ?_
    refine CW.ret ?_
    refine outP1 Tryz.results74 (congrArg B ?_) hH18.below
    first | exact (fac_no (f := f.fc) (nt ‹_›)).symm | exact (fac_12s (f := f.fc) (nf ‹(!namedF f.names) = false›) (.inl ‹_›)).symm | exact (fac_12s (f := f.fc) (nf ‹(!namedF f.names) = false›) (.inr ‹_›)).symm | exact (fac_3y (f := f.fc) (nf ‹(!namedF f.names) = false›) ‹_› ‹_›).symm | exact (fac_3n (f := f.fc) ‹_› ‹_›).symm | exact (fac_4y (f := f.fc) (nf ‹(!namedF f.names) = false›) ‹_› ‹_›).symm | exact (fac_4n (f := f.fc) ‹_› ‹_›).symm | exact (fac_x (f := f.fc) ‹_› ‹_› ‹_› ‹_›).symm
   ·refine SR ?_
    refine V (run_eql rfl rfl) ?_
    refine V (aV (B _) rfl) ?_
    refine RL.nil ?_
    refine CW.condP rfl (fun h22 => ?_) (fun h22 => ?_)
    ·refine SR ?_
     refine V (fA underlying59 2 rfl sizeOf57 rfl) ?_
     refine V (fA underlying57 0 rfl sizeOf3 rfl) ?_
     refine V (run_ld underlying3 rfl rfl (hH5.cell (i := 0) rfl (v := I _) rfl)) ?_
     refine V (fA underlying59 1 rfl sizeOf54 rfl) ?_
     refine V (run_ld underlying54 rfl rfl (hH5.cell (i := 0) rfl rfl)) ?_
     refine V (run_lenSl (hf.names.sl.hp hH5) rfl underlying54 rfl) ?_
     refine V (run_eql rfl rfl) ?_
     refine V (mV (B _) rfl) ?_
     refine RL.splitP (dj := 25) rfl (fun h24 => ?_) (fun h24 => ?_)
     ·refine RL.gT rfl (bT h24) ?_
      refine V (fA underlying59 2 rfl sizeOf57 rfl) ?_
      refine RL.gT rfl (bT h24) ?_
      refine V (run_ldBR underlying57 rfl rfl rfl (hH5.blk (i := 0) rfl)) ?_
      refine RL.gT rfl (bT h24) ?_
      refine RL.callP rfl hH5 (c_grid_Right _  _) (run_call1 call102 rfl) ?_
      intro w25 hH26
      refine V (run_pickT (bT h24) (v := B _) rfl) ?_
      refine V (aV (B _) rfl) ?_
      refine RL.nil ?_
      refine CW.ret ?_
      refine outP1 Tryz.results74 (congrArg B ?_) hH26.below
      first | exact (fac_no (f := f.fc) (nt ‹_›)).symm | exact (fac_12s (f := f.fc) (nf ‹(!namedF f.names) = false›) (.inl ‹_›)).symm | exact (fac_12s (f := f.fc) (nf ‹(!namedF f.names) = false›) (.inr ‹_›)).symm | exact (fac_3y (f := f.fc) (nf ‹(!namedF f.names) = false›) ‹_› ‹_›).symm | exact (fac_3n (f := f.fc) ‹_› ‹_›).symm | exact (fac_4y (f := f.fc) (nf ‹(!namedF f.names) = false›) ‹_› ‹_›).symm | exact (fac_4n (f := f.fc) ‹_› ‹_›).symm | exact (fac_x (f := f.fc) ‹_› ‹_› ‹_› ‹_›).symm
     ·refine RL.gF rfl rfl (bF h24) rfl ?_
      refine RL.gF rfl rfl (bF h24) rfl ?_
      refine RL.gF rfl rfl (bF h24) rfl ?_
      refine V (run_pickF (bF h24) (v := B false) rfl) ?_
      refine V (aV (B _) rfl) ?_
      refine RL.nil ?_
      refine CW.ret ?_
      refine outP1 Tryz.results74 (congrArg B ?_) hH5.below
      first | exact (fac_no (f := f.fc) (nt ‹_›)).symm | exact (fac_12s (f := f.fc) (nf ‹(!namedF f.names) = false›) (.inl ‹_›)).symm | exact (fac_12s (f := f.fc) (nf ‹(!namedF f.names) = false›) (.inr ‹_›)).symm | exact (fac_3y (f := f.fc) (nf ‹(!namedF f.names) = false›) ‹_› ‹_›).symm | exact (fac_3n (f := f.fc) ‹_› ‹_›).symm | exact (fac_4y (f := f.fc) (nf ‹(!namedF f.names) = false›) ‹_› ‹_›).symm | exact (fac_4n (f := f.fc) ‹_› ‹_›).symm | exact (fac_x (f := f.fc) ‹_› ‹_› ‹_› ‹_›).symm
    ·refine SR ?_
     refine V (run_eql rfl rfl) ?_
     refine V (aV (B _) rfl) ?_
     refine RL.nil ?_
     refine CW.condP rfl (fun h29 => ?_) (fun h29 => ?_)
     ·refine SR ?_
      refine V (fA underlying59 2 rfl sizeOf57 rfl) ?_
      refine V (fA underlying57 0 rfl sizeOf3 rfl) ?_
      refine V (run_ld underlying3 rfl rfl (hH5.cell (i := 0) rfl (v := I _) rfl)) ?_
      refine V (fA underlying59 1 rfl sizeOf54 rfl) ?_
      refine V (run_ld underlying54 rfl rfl (hH5.cell (i := 0) rfl rfl)) ?_
      refine V (run_lenSl (hf.names.sl.hp hH5) rfl underlying54 rfl) ?_
      refine V (run_eql rfl rfl) ?_
      refine V (mV (B _) rfl) ?_
      refine RL.splitP (dj := 39) rfl (fun h31 => ?_) (fun h31 => ?_)
      ·refine RL.gT rfl (bT h31) ?_
       refine V (fA underlying59 2 rfl sizeOf57 rfl) ?_
       refine RL.gT rfl (bT h31) ?_
       refine V (run_ldBR underlying57 rfl rfl rfl (hH5.blk (i := 0) rfl)) ?_
       refine RL.gT rfl (bT h31) ?_
       refine RL.callP rfl hH5 (c_hasse_Lattice _  _ (hT.hp hH5)) (run_call1 call103 rfl) ?_
       intro w32 hH33
       refine V (run_pickT (bT h31) (v := B _) rfl) ?_
       refine V (aV (B _) rfl) ?_
       refine RL.nil ?_
       refine CW.ret ?_
       refine outP1 Tryz.results74 (congrArg B ?_) hH33.below
       first | exact (fac_no (f := f.fc) (nt ‹_›)).symm | exact (fac_12s (f := f.fc) (nf ‹(!namedF f.names) = false›) (.inl ‹_›)).symm | exact (fac_12s (f := f.fc) (nf ‹(!namedF f.names) = false›) (.inr ‹_›)).symm | exact (fac_3y (f := f.fc) (nf ‹(!namedF f.names) = false›) ‹_› ‹_›).symm | exact (fac_3n (f := f.fc) ‹_› ‹_›).symm | exact (fac_4y (f := f.fc) (nf ‹(!namedF f.names) = false›) ‹_› ‹_›).symm | exact (fac_4n (f := f.fc) ‹_› ‹_›).symm | exact (fac_x (f := f.fc) ‹_› ‹_› ‹_› ‹_›).symm
      ·refine RL.gF rfl rfl (bF h31) rfl ?_
       refine RL.gF rfl rfl (bF h31) rfl ?_
       refine RL.gF rfl rfl (bF h31) rfl ?_
       refine V (run_pickF (bF h31) (v := B false) rfl) ?_
       refine V (aV (B _) rfl) ?_
       refine RL.nil ?_
       refine CW.ret ?_
       refine outP1 Tryz.results74 (congrArg B ?_) hH5.below
       first | exact (fac_no (f := f.fc) (nt ‹_›)).symm | exact (fac_12s (f := f.fc) (nf ‹(!namedF f.names) = false›) (.inl ‹_›)).symm | exact (fac_12s (f := f.fc) (nf ‹(!namedF f.names) = false›) (.inr ‹_›)).symm | exact (fac_3y (f := f.fc) (nf ‹(!namedF f.names) = false›) ‹_› ‹_›).symm | exact (fac_3n (f := f.fc) ‹_› ‹_›).symm | exact (fac_4y (f := f.fc) (nf ‹(!namedF f.names) = false›) ‹_› ‹_›).symm | exact (fac_4n (f := f.fc) ‹_› ‹_›).symm | exact (fac_x (f := f.fc) ‹_› ‹_› ‹_› ‹_›).symm
     ·refine CW.skip ?_
      refine SR ?_
      refine V (aV (B false) rfl) ?_
      refine RL.nil ?_
      refine CW.ret ?_
      refine outP1 Tryz.results74 (congrArg B ?_) hH5.below
      first | exact (fac_no (f := f.fc) (nt ‹_›)).symm | exact (fac_12s (f := f.fc) (nf ‹(!namedF f.names) = false›) (.inl ‹_›)).symm | exact (fac_12s (f := f.fc) (nf ‹(!namedF f.names) = false›) (.inr ‹_›)).symm | exact (fac_3y (f := f.fc) (nf ‹(!namedF f.names) = false›) ‹_› ‹_›).symm | exact (fac_3n (f := f.fc) ‹_› ‹_›).symm | exact (fac_4y (f := f.fc) (nf ‹(!namedF f.names) = false›) ‹_› ‹_›).symm | exact (fac_4n (f := f.fc) ‹_› ‹_›).symm | exact (fac_x (f := f.fc) ‹_› ‹_› ‹_› ‹_›).symm

theorem c_shape_Right (s : Shp) (w : World) (hs : ShpV (Kw w) s) (hT : Tab w) : Calls Tryz.prog 53 #[.agg (shpC s)] w (Pure (B (shR s.sh)) w) := by
 have hsl := sh_len s
 have hm := hs.facs.sl.small
 unfold maxLen at hm
 refine enter Tryz.func53 rfl Tryz.ntmps53 rfl ?_
 have hH := Hp.start w
 refine SR ?_
 refine RL.new rfl hH (f := fun b => (.pointer (some ⟨b, 0, none⟩))) (run_box (v := .agg _) rfl) ?_
 intro b3 w1 hH2
 refine V (aV (B false) rfl) ?_
 refine RL.nil ?_
 refine SR ?_
 refine V (fA underlying42 1 rfl sizeOf40 rfl) ?_
 refine V (run_ld underlying40 rfl rfl (hH2.cell (i := 0) rfl rfl)) ?_
 refine V (run_lenSl (hs.facs.sl.hp hH2) rfl underlying40 rfl) ?_
 refine V (aV (I _) rfl) ?_
 refine RL.nil ?_
 refine CW.seq ?_
 refine SR ?_
 refine V (mV (I _) rfl) ?_
 refine V (run_lss rfl rfl) ?_
 refine V (mV (B _) rfl) ?_
 refine RL.splitP (dj := 11) rfl (fun h5 => ?_) (fun h5 => ?_)
 ·refine RL.gF rfl rfl (bT h5) rfl ?_
  refine RL.gF rfl rfl (bT h5) rfl ?_
  refine V (run_pickT (bT h5) (v := B true) rfl) ?_
  refine V (mV (B _) rfl) ?_
  refine RL.gF rfl rfl rfl rfl ?_
  refine RL.gF rfl rfl rfl rfl ?_
  refine RL.gF rfl rfl rfl rfl ?_
  refine RL.gF rfl rfl rfl rfl ?_
  refine RL.gU rfl rfl rfl ?_
  refine RL.gU rfl rfl rfl ?_
  refine RL.gF rfl rfl rfl rfl ?_
  refine V (run_pickT rfl (v := B true) rfl) ?_
  refine RL.nil ?_
  refine CW.condT rfl ?_
  refine SR ?_
  refine V (aV (B false) rfl) ?_
  refine RL.nil ?_
  refine CW.ret ?_
  refine outP1 Tryz.results53 (congrArg B ?_) hH2.below
  first | exact (shR_no3 (k := k) h0 (by omega) (by rw [sh_get]; exact nt ‹_›)).symm | exact (shR_yes (k := k) (by omega) hc2 (by omega) fun j a b => by rw [sh_get]; exact hg j a b).symm | exact (shR_no1 (by omega)).symm | exact (shR_no2 (by first | exact nt ‹_› | assumption) (by omega)).symm
 ·refine RL.gT rfl (bF h5) ?_
  refine V (mV (I _) rfl) ?_
  refine RL.gT rfl (bF h5) ?_
  refine V (run_gtr rfl rfl) ?_
  refine V (run_pickF (bF h5) (v := B _) rfl) ?_
  refine V (mV (B _) rfl) ?_
  refine RL.splitP (dj := 15) rfl (fun h7 => ?_) (fun h7 => ?_)
  ·refine RL.gF rfl rfl (bT h7) rfl ?_
   refine RL.gF rfl rfl (bT h7) rfl ?_
   refine RL.gF rfl rfl (bT h7) rfl ?_
   refine RL.gF rfl rfl (bT h7) rfl ?_
   refine RL.gU rfl rfl rfl ?_
   refine RL.gU rfl rfl rfl ?_
   refine RL.gF rfl rfl (bT h7) rfl ?_
   refine V (run_pickT (bT h7) (v := B true) rfl) ?_
   refine RL.nil ?_
   refine CW.condT rfl ?_
   refine SR ?_
   refine V (aV (B false) rfl) ?_
   refine RL.nil ?_
   refine CW.ret ?_
   refine outP1 Tryz.results53 (congrArg B ?_) hH2.below
   first | exact (shR_no3 (k := k) h0 (by omega) (by rw [sh_get]; exact nt ‹_›)).symm | exact (shR_yes (k := k) (by omega) hc2 (by omega) fun j a b => by rw [sh_get]; exact hg j a b).symm | exact (shR_no1 (by omega)).symm | exact (shR_no2 (by first | exact nt ‹_› | assumption) (by omega)).symm
  ·refine RL.gT rfl (bF h7) ?_
   refine V (fA underlying42 0 rfl sizeOf4 rfl) ?_
   refine RL.gT rfl (bF h7) ?_
   refine V (run_ld underlying4 rfl rfl (hH2.cell (i := 0) rfl (v := B _) rfl)) ?_
   refine RL.gT rfl (bF h7) ?_
   refine V (run_not rfl) ?_
   refine RL.gT rfl (bF h7) ?_
   refine V (mV (B _) rfl) ?_
   refine RL.split (dj := 19) rfl (fun h10 => ?_) (fun h10 => ?_)
   ·refine RL.gT rfl (bR (c := true) h10) ?_
    refine V (mV (I _) rfl) ?_
    refine RL.gT rfl (bR (c := true) h10) ?_
    refine V (run_neq rfl rfl) ?_
    refine RL.gT rfl (bF h7) ?_
    refine V (run_pickT (bR (c := true) h10) (v := B _) rfl) ?_
    refine V (run_pickF (bF h7) (v := B _) rfl) ?_
    refine RL.nil ?_
    refine CW.condP rfl (fun h12 => ?_) (fun h12 => ?_)
    ·refine SR ?_
     refine V (aV (B false) rfl) ?_
     refine RL.nil ?_
     refine CW.ret ?_
     refine outP1 Tryz.results53 (congrArg B ?_) hH2.below
     first | exact (shR_no3 (k := k) h0 (by omega) (by rw [sh_get]; exact nt ‹_›)).symm | exact (shR_yes (k := k) (by omega) hc2 (by omega) fun j a b => by rw [sh_get]; exact hg j a b).symm | exact (shR_no1 (by omega)).symm | exact (shR_no2 (by first | exact nt ‹_› | assumption) (by omega)).symm
    ·refine CW.skip ?_
     refine CW.seq ?_
     refine SR ?_
     refine V (fA underlying42 1 rfl sizeOf40 rfl) ?_
     refine V (run_ld underlying40 rfl rfl (hH2.cell (i := 0) rfl rfl)) ?_
     refine V (run_lenSl (hs.facs.sl.hp hH2) rfl underlying40 rfl) ?_
     refine V (mV (I 0) rfl) ?_
     refine RL.nil ?_
     refine CW.block ?_
     have hc2 : s.sh.tuple = true ∨ s.sh.facs.length = 1 := by first | exact .inl (nf ‹(!s.tuple) = false›) | exact .inl ‹s.tuple = true› | exact .inr (by omega)
     have hc1 : 1 ≤ s.facs.length ∧ s.facs.length ≤ 8 := by omega
     refine CW.loop (G := (Int)) (fun (k : Int) s' w' => (Fr [2, 5, 27, 28, 29, 30, 31, 32, 33, 34] _ s') ∧ (Hp w w' _) ∧ (s' 27 = I k) ∧ (0 ≤ k) ∧ (k ≤ s.facs.length) ∧ (∀ j : Int, 0 ≤ j → j < k → factorR (s.facs.getD j.toNat fac0).fc = true)) (fun (k : Int) => (s.facs.length - k).toNat) (0) ⟨Fr.refl _ _, hH2, rfl, (by omega), (by omega), fun j a b => absurd b (by omega)⟩ ?_
     rintro k sg13 w13 ⟨fr13, hH13, e27_13, h0, hk, hg⟩
     have e25_13 := (fr13 25 rfl).trans (by conv => lhs; whnf)
     have e26_13 : sg13 26 = I _ := (fr13 26 rfl).trans rfl
     refine SR ?_
     refine V (run_lss e27_13 e26_13) ?_
     refine RL.nil ?_
     refine CW.seq ?_
     refine CW.condP rfl (fun h15 => ?_) (fun h15 => ?_)
     ·refine CW.skip ?_
      refine CW.seq ?_
      refine CW.block ?_
      refine SR ?_
      refine V (run_indexAddrS (hs.facs.sl.hp hH13) underlying40 sizeOf59 e25_13 e27_13 (by omega)) ?_
      refine V (run_ldE (dv := fac0) facL_len (hs.facs.sl.hp hH13) underlying59 rfl rfl rfl (by omega)) ?_
      refine RL.new rfl hH13 (f := fun b => (.pointer (some ⟨b, 0, none⟩))) (run_alloc zero_fac) ?_
      intro b18 w16 hH17
      refine RL.set hH17 (i := 0) rfl (run_stFac (hs.at (by omega) (by omega)) rfl rfl rfl (hH17.blk (i := 0) rfl)) ?_
      intro w19 hH20
      simp only [z0, z1] at hH20
      refine RL.nil ?_
      refine SR ?_
      refine V (run_ldFac underlying59 rfl rfl rfl (hH20.blk (i := 0) rfl)) ?_
      refine RL.callP rfl hH20 (c_shape_factor _  _ ((hs.at (by omega) (by omega)).mono hH20.kw) (hT.hp hH20)) (run_call1 call74 rfl) ?_
      intro w21 hH22
      refine V (run_not rfl) ?_
      refine RL.nil ?_
      refine CW.cond rfl (fun h25 => ?_) (fun h25 => ?_)
      ·refine SR ?_
       refine V (aV (B false) rfl) ?_
       refine RL.nil ?_
       refine CW.ret ?_
       refine outP1 Tryz.results53 (congrArg B ?_) hH22.below
       first | exact (shR_no3 (k := k) h0 (by omega) (by rw [sh_get]; exact nt ‹_›)).symm | exact (shR_yes (k := k) (by omega) hc2 (by omega) fun j a b => by rw [sh_get]; exact hg j a b).symm | exact (shR_no1 (by omega)).symm | exact (shR_no2 (by first | exact nt ‹_› | assumption) (by omega)).symm
      ·refine CW.skip ?_
       refine CW.region ?_
       refine V (run_add e27_13 rfl (by omega)) ?_
       refine V (mV (I _) rfl) ?_
       refine RL.nil ?_
       refine ⟨k + 1, ?_, fr13.u4.u4.u1, (hH22.sub (sQ sR)), (congrArg I (by first | rfl | omega)), ?_, ?_, ?_⟩
       ·((try dsimp only); omega)
       ·omega
       ·omega
       ·exact fun j a b => if e : j = k then e ▸ nf ‹_› else hg j a (by omega)
     ·refine CW.exit (id := 0) rfl ?_
      refine SR ?_
      refine V (aV (B true) rfl) ?_
      refine RL.nil ?_
      refine CW.ret ?_
      refine outP1 Tryz.results53 (congrArg B ?_) hH13.below
      first | exact (shR_no3 (k := k) h0 (by omega) (by rw [sh_get]; exact nt ‹_›)).symm | exact (shR_yes (k := k) (by omega) hc2 (by omega) fun j a b => by rw [sh_get]; exact hg j a b).symm | exact (shR_no1 (by omega)).symm | exact (shR_no2 (by first | exact nt ‹_› | assumption) (by omega)).symm
   ·refine RL.gF rfl rfl (bR (c := false) h10) rfl ?_
    refine RL.gF rfl rfl (bR (c := false) h10) rfl ?_
    refine RL.gT rfl (bF h7) ?_
    refine V (run_pickF (bR (c := false) h10) (v := B false) rfl) ?_
    refine V (run_pickF (bF h7) (v := B _) rfl) ?_
    refine RL.nil ?_
    refine CW.condF rfl ?_
    refine CW.skip ?_
    refine CW.seq ?_
    refine SR ?_
    refine V (fA underlying42 1 rfl sizeOf40 rfl) ?_
    refine V (run_ld underlying40 rfl rfl (hH2.cell (i := 0) rfl rfl)) ?_
    refine V (run_lenSl (hs.facs.sl.hp hH2) rfl underlying40 rfl) ?_
    refine V (mV (I 0) rfl) ?_
    refine RL.nil ?_
    refine CW.block ?_
    have hc2 : s.sh.tuple = true ∨ s.sh.facs.length = 1 := by first | exact .inl (nf ‹(!s.tuple) = false›) | exact .inl ‹s.tuple = true› | exact .inr (by omega)
    have hc1 : 1 ≤ s.facs.length ∧ s.facs.length ≤ 8 := by omega
    refine CW.loop (G := (Int)) (fun (k : Int) s' w' => (Fr [2, 5, 27, 28, 29, 30, 31, 32, 33, 34] _ s') ∧ (Hp w w' _) ∧ (s' 27 = I k) ∧ (0 ≤ k) ∧ (k ≤ s.facs.length) ∧ (∀ j : Int, 0 ≤ j → j < k → factorR (s.facs.getD j.toNat fac0).fc = true)) (fun (k : Int) => (s.facs.length - k).toNat) (0) ⟨Fr.refl _ _, hH2, rfl, (by omega), (by omega), fun j a b => absurd b (by omega)⟩ ?_
    rintro k sg26 w26 ⟨fr26, hH26, e27_26, h0, hk, hg⟩
    have e25_26 := (fr26 25 rfl).trans (by conv => lhs; whnf)
    have e26_26 : sg26 26 = I _ := (fr26 26 rfl).trans rfl
    refine SR ?_
    refine V (run_lss e27_26 e26_26) ?_
    refine RL.nil ?_
    refine CW.seq ?_
    refine CW.condP rfl (fun h28 => ?_) (fun h28 => ?_)
    ·refine CW.skip ?_
     refine CW.seq ?_
     refine CW.block ?_
     refine SR ?_
     refine V (run_indexAddrS (hs.facs.sl.hp hH26) underlying40 sizeOf59 e25_26 e27_26 (by omega)) ?_
     refine V (run_ldE (dv := fac0) facL_len (hs.facs.sl.hp hH26) underlying59 rfl rfl rfl (by omega)) ?_
     refine RL.new rfl hH26 (f := fun b => (.pointer (some ⟨b, 0, none⟩))) (run_alloc zero_fac) ?_
     intro b31 w29 hH30
     refine RL.set hH30 (i := 0) rfl (run_stFac (hs.at (by omega) (by omega)) rfl rfl rfl (hH30.blk (i := 0) rfl)) ?_
     intro w32 hH33
     simp only [z0, z1] at hH33
     refine RL.nil ?_
     refine SR ?_
     refine V (run_ldFac underlying59 rfl rfl rfl (hH33.blk (i := 0) rfl)) ?_
     refine RL.callP rfl hH33 (c_shape_factor _  _ ((hs.at (by omega) (by omega)).mono hH33.kw) (hT.hp hH33)) (run_call1 call74 rfl) ?_
     intro w34 hH35
     refine V (run_not rfl) ?_
     refine RL.nil ?_
     refine CW.cond rfl (fun h38 => ?_) (fun h38 => ?_)
     ·refine SR ?_
      refine V (aV (B false) rfl) ?_
      refine RL.nil ?_
      refine CW.ret ?_
      refine outP1 Tryz.results53 (congrArg B ?_) hH35.below
      first | exact (shR_no3 (k := k) h0 (by omega) (by rw [sh_get]; exact nt ‹_›)).symm | exact (shR_yes (k := k) (by omega) hc2 (by omega) fun j a b => by rw [sh_get]; exact hg j a b).symm | exact (shR_no1 (by omega)).symm | exact (shR_no2 (by first | exact nt ‹_› | assumption) (by omega)).symm
     ·refine CW.skip ?_
      refine CW.region ?_
      refine V (run_add e27_26 rfl (by omega)) ?_
      refine V (mV (I _) rfl) ?_
      refine RL.nil ?_
      refine ⟨k + 1, ?_, fr26.u4.u4.u1, (hH35.sub (sQ sR)), (congrArg I (by first | rfl | omega)), ?_, ?_, ?_⟩
      ·((try dsimp only); omega)
      ·omega
      ·omega
      ·exact fun j a b => if e : j = k then e ▸ nf ‹_› else hg j a (by omega)
    ·refine CW.exit (id := 0) rfl ?_
     refine SR ?_
     refine V (aV (B true) rfl) ?_
     refine RL.nil ?_
     refine CW.ret ?_
     refine outP1 Tryz.results53 (congrArg B ?_) hH26.below
     first | exact (shR_no3 (k := k) h0 (by omega) (by rw [sh_get]; exact nt ‹_›)).symm | exact (shR_yes (k := k) (by omega) hc2 (by omega) fun j a b => by rw [sh_get]; exact hg j a b).symm | exact (shR_no1 (by omega)).symm | exact (shR_no2 (by first | exact nt ‹_› | assumption) (by omega)).symm

theorem c_shape_word (f : Fac) (s : BitVec 64) (w : World) (hf : FacV (Kw w) f) (hT : Tab w) : Calls Tryz.prog 54 #[.agg (facC f), U s] w (Pure (B (wordF f.fc s)) w) := by
 have hm := hf.names.sl.small
 unfold maxLen at hm
 refine enter Tryz.func54 rfl Tryz.ntmps54 rfl ?_
 have hH := Hp.start w
 refine SR ?_
 refine RL.new rfl hH (f := fun b => (.pointer (some ⟨b, 0, none⟩))) (run_box (v := .agg _) rfl) ?_
 intro b3 w1 hH2
 refine V (aV (B false) rfl) ?_
 refine RL.nil ?_
 refine CW.seq ?_
 refine SR ?_
 refine V (fA underlying59 0 rfl sizeOf3 rfl) ?_
 refine V (run_ld underlying3 rfl rfl (hH2.cell (i := 0) rfl (v := I _) rfl)) ?_
 refine RL.nil ?_
 refine CW.block ?_
 refine SR ?_
 refine V (run_eql rfl rfl) ?_
 refine V (aV (B _) rfl) ?_
 refine RL.nil ?_
 refine CW.condP rfl (fun h5 => ?_) (fun h5 => ?_)
 ·refine SR ?_
  refine V (fA underlying59 1 rfl sizeOf54 rfl) ?_
  refine V (run_ld underlying54 rfl rfl (hH2.cell (i := 0) rfl rfl)) ?_
  refine V (run_lenSl (hf.names.sl.hp hH2) rfl underlying54 rfl) ?_
  refine V (mV (U _) rfl) ?_
  refine RL.callP rfl hH2 (c_rung_Right _ _  _) (run_call2 call75 rfl rfl) ?_
  intro w6 hH7
  refine V (aV (B _) rfl) ?_
  refine RL.nil ?_
  refine CW.ret ?_
  refine outP1 Tryz.results54 (congrArg B ?_) hH7.below
  first | exact (word1 (f := f.fc) ‹_› s).symm | exact (word2 (f := f.fc) ‹_› s).symm | exact (word3 (f := f.fc) ‹_› s).symm | exact (wordx (f := f.fc) ‹_› ‹_› ‹_› s).symm
 ·refine SR ?_
  refine V (run_eql rfl rfl) ?_
  refine V (aV (B _) rfl) ?_
  refine RL.nil ?_
  refine CW.condP rfl (fun h10 => ?_) (fun h10 => ?_)
  ·refine SR ?_
   refine V (mV (U _) rfl) ?_
   refine V (fA underlying59 1 rfl sizeOf54 rfl) ?_
   refine V (run_ld underlying54 rfl rfl (hH2.cell (i := 0) rfl rfl)) ?_
   refine V (run_lenSl (hf.names.sl.hp hH2) rfl underlying54 rfl) ?_
   refine RL.callP rfl hH2 (c_mask_Below _  _) (run_call1 call76 rfl) ?_
   intro w11 hH12
   refine RL.callP rfl hH12 (c_mask_Sub _ _  _) (run_call2 call68 rfl rfl) ?_
   intro w13 hH14
   refine V (aV (B _) rfl) ?_
   refine RL.nil ?_
   refine CW.ret ?_
   refine outP1 Tryz.results54 (congrArg B ?_) hH14.below
   first | exact (word1 (f := f.fc) ‹_› s).symm | exact (word2 (f := f.fc) ‹_› s).symm | exact (word3 (f := f.fc) ‹_› s).symm | exact (wordx (f := f.fc) ‹_› ‹_› ‹_› s).symm
  ·refine SR ?_
   refine V (run_eql rfl rfl) ?_
   refine V (aV (B _) rfl) ?_
   refine RL.nil ?_
   refine CW.condP rfl (fun h17 => ?_) (fun h17 => ?_)
   ·refine SR ?_
    refine V (fA underlying59 2 rfl sizeOf57 rfl) ?_
    refine V (run_ldBR underlying57 rfl rfl rfl (hH2.blk (i := 0) rfl)) ?_
    refine V (mV (U _) rfl) ?_
    refine RL.callP rfl hH2 (c_grid_Closed _ _  _ (hT.hp hH2)) (run_call2 call77 rfl rfl) ?_
    intro w18 hH19
    refine V (aV (B _) rfl) ?_
    refine RL.nil ?_
    refine CW.ret ?_
    refine outP1 Tryz.results54 (congrArg B ?_) hH19.below
    first | exact (word1 (f := f.fc) ‹_› s).symm | exact (word2 (f := f.fc) ‹_› s).symm | exact (word3 (f := f.fc) ‹_› s).symm | exact (wordx (f := f.fc) ‹_› ‹_› ‹_› s).symm
   ·refine CW.skip ?_
    refine SR ?_
    refine V (fA underlying59 2 rfl sizeOf57 rfl) ?_
    refine V (run_ldBR underlying57 rfl rfl rfl (hH2.blk (i := 0) rfl)) ?_
    refine V (mV (U _) rfl) ?_
    refine RL.callP rfl hH2 (c_hasse_Point _ _  _ (hT.hp hH2)) (run_call2 call78 rfl rfl) ?_
    intro w21 hH22
    refine V (run_move (by conv => lhs; whnf)) ?_
    refine V (run_extract rfl (v := I _) rfl) ?_
    refine V (run_extract rfl (v := B _) rfl) ?_
    refine V (aV (I _) rfl) ?_
    refine V (aV (B _) rfl) ?_
    refine RL.nil ?_
    refine SR ?_
    refine V (mV (B _) rfl) ?_
    refine V (aV (B _) rfl) ?_
    refine RL.nil ?_
    refine CW.ret ?_
    refine outP1 Tryz.results54 (congrArg B ?_) hH22.below
    first | exact (word1 (f := f.fc) ‹_› s).symm | exact (word2 (f := f.fc) ‹_› s).symm | exact (word3 (f := f.fc) ‹_› s).symm | exact (wordx (f := f.fc) ‹_› ‹_› ‹_› s).symm

theorem c_shape_Fits (s : Shp) (e : El) (w : World) (hs : ShpV (Kw w) s) (hT : Tab w) : Calls Tryz.prog 24 #[.agg (shpC s), .agg (elC e)] w (Pure (B (fitsS s.sh e)) w) := by
 have hsl := sh_len s
 have hm := hs.facs.sl.small
 unfold maxLen at hm
 refine enter Tryz.func24 rfl Tryz.ntmps24 rfl ?_
 have hH := Hp.start w
 refine SR ?_
 refine RL.new rfl hH (f := fun b => (.pointer (some ⟨b, 0, none⟩))) (run_box (v := .agg _) rfl) ?_
 intro b3 w1 hH2
 refine RL.new rfl hH2 (f := fun b => (.pointer (some ⟨b, 0, none⟩))) (run_box (v := .agg _) rfl) ?_
 intro b6 w4 hH5
 refine V (aV (B false) rfl) ?_
 refine RL.nil ?_
 refine CW.seq ?_
 refine SR ?_
 refine V (run_ldA (cs := [B _, _]) underlying42 rfl rfl rfl (rangeAt_cells (hH5.blk (i := 1) rfl))) ?_
 refine RL.callP rfl hH5 (c_shape_Right _  _ (hs.mono hH5.kw) (hT.hp hH5)) (run_call1 call53 rfl) ?_
 intro w7 hH8
 refine V (run_not rfl) ?_
 refine RL.nil ?_
 refine CW.cond rfl (fun h11 => ?_) (fun h11 => ?_)
 ·refine SR ?_
  refine V (aV (B false) rfl) ?_
  refine RL.nil ?_
  refine CW.ret ?_
  refine outP1 Tryz.results24 (congrArg B ?_) hH8.below
  first | exact (fits_no1 (nt ‹_›)).symm | exact (fits_no3 h0 ‹_› (by omega) ‹_›).symm | exact (fits_no2 h0 ‹_› (by omega) (by rw [sh_get]; exact nt ‹_›)).symm | exact (fits_yes hr ‹_› hf).symm
 ·refine CW.skip ?_
  refine CW.seq ?_
  refine SR ?_
  refine V (run_ldEl underlying51 rfl rfl rfl (hH8.blk (i := 0) rfl)) ?_
  refine V (mV (I 0) rfl) ?_
  refine RL.nil ?_
  refine CW.block ?_
  have hr : shR s.sh = true := nf ‹_›
  refine CW.loop (G := (Int)) (fun (k : Int) s' w' => (Fr [4, 5, 6, 11, 12, 13, 14, 15, 16, 17, 18, 19, 20, 21, 22, 23, 24, 25, 26, 27, 28, 29, 30] _ s') ∧ (Hp w w' _) ∧ (s' 11 = I k) ∧ (0 ≤ k) ∧ (k ≤ 8) ∧ (FitTo s.sh e k)) (fun (k : Int) => (8 - k).toNat) (0) ⟨Fr.refl _ _, hH8, rfl, (by omega), (by omega), FitTo.none _ _⟩ ?_
  rintro k sg12 w12 ⟨fr12, hH12, e11_12, h0, hk, hf⟩
  have e2_12 : sg12 2 = Pn _ _ := (fr12 2 rfl).trans rfl
  have e10_12 : sg12 10 = .agg _ := (fr12 10 rfl).trans rfl
  refine SR ?_
  refine V (run_lss e11_12 rfl) ?_
  refine RL.nil ?_
  refine CW.seq ?_
  refine CW.condP rfl (fun h14 => ?_) (fun h14 => ?_)
  ·refine CW.skip ?_
   refine CW.seq ?_
   refine CW.block ?_
   refine SR ?_
   refine V (run_move e11_12) ?_
   refine V (run_indexA underlying51 isAgg49 sizeOf49 e10_12 e11_12 (by omega) (elC_ix _ (by omega))) ?_
   refine V (aV (I _) rfl) ?_
   refine V (aV (U _) rfl) ?_
   refine RL.nil ?_
   refine CW.seq ?_
   refine SR ?_
   refine V (mV (I _) rfl) ?_
   refine V (fA underlying42 1 rfl sizeOf40 e2_12) ?_
   refine V (run_ld underlying40 rfl rfl (hH12.cell (i := 1) rfl rfl)) ?_
   refine V (run_lenSl (hs.facs.sl.hp hH12) rfl underlying40 rfl) ?_
   refine V (run_geq rfl rfl) ?_
   refine RL.nil ?_
   refine CW.condP rfl (fun h16 => ?_) (fun h16 => ?_)
   ·refine CW.seq ?_
    refine SR ?_
    refine V (mV (U _) rfl) ?_
    refine V (run_neqU rfl (b := 0#64) rfl) ?_
    refine RL.nil ?_
    refine CW.condP rfl (fun h18 => ?_) (fun h18 => ?_)
    ·refine SR ?_
     refine V (aV (B false) rfl) ?_
     refine RL.nil ?_
     refine CW.ret ?_
     refine outP1 Tryz.results24 (congrArg B ?_) hH12.below
     first | exact (fits_no1 (nt ‹_›)).symm | exact (fits_no3 h0 ‹_› (by omega) ‹_›).symm | exact (fits_no2 h0 ‹_› (by omega) (by rw [sh_get]; exact nt ‹_›)).symm | exact (fits_yes hr ‹_› hf).symm
    ·refine CW.skip ?_
     refine CW.exit (id := 1) rfl ?_
     refine CW.region ?_
     refine V (run_add e11_12 rfl (by omega)) ?_
     refine V (mV (I _) rfl) ?_
     refine RL.nil ?_
     refine ⟨k + 1, ?_, fr12.u4.u4.u4.u1.u1, hH12, (congrArg I (by first | rfl | omega)), ?_, ?_, ?_⟩
     ·((try dsimp only); omega)
     ·omega
     ·omega
     ·exact hf.next (fun h => by first | (exfalso; omega) | (rw [sh_get]; exact nf ‹_›)) (fun h => by first | exact Decidable.of_not_not ‹_› | (exfalso; omega))
   ·refine CW.skip ?_
    refine SR ?_
    refine V (fA underlying42 1 rfl sizeOf40 e2_12) ?_
    refine V (run_ld underlying40 rfl rfl (hH12.cell (i := 1) rfl rfl)) ?_
    refine V (mV (I _) rfl) ?_
    refine V (run_indexAddrS (hs.facs.sl.hp hH12) underlying40 sizeOf59 rfl rfl (by omega)) ?_
    refine V (run_ldE (dv := fac0) facL_len (hs.facs.sl.hp hH12) underlying59 rfl rfl rfl (by omega)) ?_
    refine V (mV (U _) rfl) ?_
    refine RL.callP rfl hH12 (c_shape_word _ _  _ ((hs.at (by omega) (by omega)).mono hH12.kw) (hT.hp hH12)) (run_call2 call54 rfl rfl) ?_
    intro w19 hH20
    refine V (run_not rfl) ?_
    refine RL.nil ?_
    refine CW.cond rfl (fun h23 => ?_) (fun h23 => ?_)
    ·refine SR ?_
     refine V (aV (B false) rfl) ?_
     refine RL.nil ?_
     refine CW.ret ?_
     refine outP1 Tryz.results24 (congrArg B ?_) hH20.below
     first | exact (fits_no1 (nt ‹_›)).symm | exact (fits_no3 h0 ‹_› (by omega) ‹_›).symm | exact (fits_no2 h0 ‹_› (by omega) (by rw [sh_get]; exact nt ‹_›)).symm | exact (fits_yes hr ‹_› hf).symm
    ·refine CW.skip ?_
     refine CW.region ?_
     refine V (run_add e11_12 rfl (by omega)) ?_
     refine V (mV (I _) rfl) ?_
     refine RL.nil ?_
     refine ⟨k + 1, ?_, fr12.u4.u4.u4.u4.u4, hH20, (congrArg I (by first | rfl | omega)), ?_, ?_, ?_⟩
     ·((try dsimp only); omega)
     ·omega
     ·omega
     ·exact hf.next (fun h => by first | (exfalso; omega) | (rw [sh_get]; exact nf ‹_›)) (fun h => by first | exact Decidable.of_not_not ‹_› | (exfalso; omega))
  ·refine CW.exit (id := 0) rfl ?_
   refine SR ?_
   refine V (aV (B true) rfl) ?_
   refine RL.nil ?_
   refine CW.ret ?_
   refine outP1 Tryz.results24 (congrArg B ?_) hH12.below
   first | exact (fits_no1 (nt ‹_›)).symm | exact (fits_no3 h0 ‹_› (by omega) ‹_›).symm | exact (fits_no2 h0 ‹_› (by omega) (by rw [sh_get]; exact nt ‹_›)).symm | exact (fits_yes hr ‹_› hf).symm

theorem c_shape_Leq (a b : El) (w : World) : Calls Tryz.prog 37 #[.agg (elC a), .agg (elC b)] w (Pure (B (leqE a b)) w) := by
 refine enter Tryz.func37 rfl Tryz.ntmps37 rfl ?_
 have hH := Hp.start w
 refine SR ?_
 refine RL.new rfl hH (f := fun b => (.pointer (some ⟨b, 0, none⟩))) (run_box (v := .agg _) rfl) ?_
 intro b3 w1 hH2
 refine RL.new rfl hH2 (f := fun b => (.pointer (some ⟨b, 0, none⟩))) (run_box (v := .agg _) rfl) ?_
 intro b6 w4 hH5
 refine V (aV (B false) rfl) ?_
 refine RL.nil ?_
 refine CW.seq ?_
 refine SR ?_
 refine V (mV (I 0) rfl) ?_
 refine RL.nil ?_
 refine CW.block ?_
 refine CW.loop (G := (Int)) (fun (k : Int) s' w' => (Fr [4, 5, 6, 7, 8, 9, 10, 11, 12, 13, 14, 15, 16, 17] _ s') ∧ (Hp w w' _) ∧ (s' 6 = I k) ∧ (0 ≤ k) ∧ (k ≤ 8) ∧ (∀ j : Int, 0 ≤ j → j < k → subB (a j.toNat) (b j.toNat) = true)) (fun (k : Int) => (8 - k).toNat) (0) ⟨Fr.refl _ _, hH5, rfl, (by omega), (by omega), fun j u v => absurd v (by omega)⟩ ?_
 rintro k sg7 w7 ⟨fr7, hH7, e6_7, h0, hk, hf⟩
 have e2_7 : sg7 2 = Pn _ _ := (fr7 2 rfl).trans rfl
 have e3_7 : sg7 3 = Pn _ _ := (fr7 3 rfl).trans rfl
 refine SR ?_
 refine V (run_lss e6_7 rfl) ?_
 refine RL.nil ?_
 refine CW.seq ?_
 refine CW.condP rfl (fun h9 => ?_) (fun h9 => ?_)
 ·refine CW.skip ?_
  refine CW.seq ?_
  refine CW.block ?_
  refine SR ?_
  refine V (run_move e6_7) ?_
  refine V (aV (I _) rfl) ?_
  refine RL.nil ?_
  refine CW.seq ?_
  refine CW.regionD (by kernel_rfl) hH7 ?_
  intro w10 hH11
  refine AT 0 rfl (hH11.sub sR) (fun w hS => mV (I _) rfl) ?_
  refine AT 1 rfl (hH11.sub sR) (fun w hS => run_indexAddrA underlying51 sizeOf49 e2_7 rfl (by omega)) ?_
  refine AT 2 rfl (hH11.sub sR) (fun w hS => run_ld underlying49 rfl rfl (hS.cell (i := 1) rfl (elC_at _ (by omega)))) ?_
  refine AT 3 rfl (hH11.sub sR) (fun w hS => mV (I _) rfl) ?_
  refine AT 4 rfl (hH11.sub sR) (fun w hS => run_indexAddrA underlying51 sizeOf49 e3_7 rfl (by omega)) ?_
  refine AT 5 rfl (hH11.sub sR) (fun w hS => run_ld underlying49 rfl rfl (hS.cell (i := 0) rfl (elC_at _ (by omega)))) ?_
  refine A1 6 ?_
  refine AO.callP rfl gnone rfl hH11 sR (c_mask_Sub _ _  _) (run_call2 call68 rfl rfl) ?_
  intro w12 hH13
  refine AT 7 rfl (hH13.sub sR) (fun w hS => run_not rfl) ?_
  refine AD ?_
  refine CW.cond rfl (fun h16 => ?_) (fun h16 => ?_)
  ·refine SR ?_
   refine V (aV (B false) rfl) ?_
   refine RL.nil ?_
   refine CW.ret ?_
   refine outP1 Tryz.results37 (congrArg B ?_) hH13.below
   first | exact (leq_no h0 ‹_› (nt ‹_›)).symm | exact (leq_yes ‹_› hf).symm
  ·refine CW.skip ?_
   refine CW.region ?_
   refine V (run_add e6_7 rfl (by omega)) ?_
   refine V (mV (I _) rfl) ?_
   refine RL.nil ?_
   refine ⟨k + 1, ?_, fr7.u4.u4.u4.u1, hH13, (congrArg I (by first | rfl | omega)), ?_, ?_, ?_⟩
   ·((try dsimp only); omega)
   ·omega
   ·omega
   ·exact fun j u v => if e : j = k then e ▸ nf ‹_› else hf j u (by omega)
 ·refine CW.exit (id := 0) rfl ?_
  refine SR ?_
  refine V (aV (B true) rfl) ?_
  refine RL.nil ?_
  refine CW.ret ?_
  refine outP1 Tryz.results37 (congrArg B ?_) hH7.below
  first | exact (leq_no h0 ‹_› (nt ‹_›)).symm | exact (leq_yes ‹_› hf).symm

theorem c_shape_Meet (a b : El) (w : World) : Calls Tryz.prog 45 #[.agg (elC a), .agg (elC b)] w (Pure (.agg (elC (meetE a b))) w) := by
 refine enter Tryz.func45 rfl Tryz.ntmps45 rfl ?_
 have hH := Hp.start w
 refine SR ?_
 refine RL.new rfl hH (f := fun b => (.pointer (some ⟨b, 0, none⟩))) (run_box (v := .agg _) rfl) ?_
 intro b3 w1 hH2
 refine RL.new rfl hH2 (f := fun b => (.pointer (some ⟨b, 0, none⟩))) (run_box (v := .agg _) rfl) ?_
 intro b6 w4 hH5
 refine RL.new rfl hH5 (f := fun b => (.pointer (some ⟨b, 0, none⟩))) (run_alloc zero_el) ?_
 intro b9 w7 hH8
 refine RL.nil ?_
 refine CW.seq ?_
 refine SR ?_
 refine V (mV (I 0) rfl) ?_
 refine RL.nil ?_
 refine CW.block ?_
 refine CW.loop (G := (Int) × (El)) (fun (⟨k, e1⟩ : (Int) × (El)) s' w' => (Fr [5, 6, 7, 8, 9, 10, 11, 12, 13, 14, 15, 16, 17] _ s') ∧ (Hp w w' (_ :: _ :: .blk b3 (.cells (elC e1) 51 (0, 0)) :: _)) ∧ (s' 6 = I k) ∧ (0 ≤ k) ∧ (k ≤ 8) ∧ (e1 = mixE (meetE a b) a k)) (fun (⟨k, e1⟩ : (Int) × (El)) => (8 - k).toNat) ((0, a)) ⟨Fr.refl _ _, hH8, rfl, (by omega), (by omega), (mix_zero _ _).symm⟩ ?_
 rintro ⟨k, e1⟩ sg10 w10 ⟨fr10, hH10, e6_10, h0, hk, hr⟩
 have e2_10 : sg10 2 = Pn _ _ := (fr10 2 rfl).trans rfl
 have e3_10 : sg10 3 = Pn _ _ := (fr10 3 rfl).trans rfl
 have e4_10 : sg10 4 = Pn _ _ := (fr10 4 rfl).trans rfl
 refine SR ?_
 refine V (run_lss e6_10 rfl) ?_
 refine RL.nil ?_
 refine CW.seq ?_
 refine CW.condP rfl (fun h12 => ?_) (fun h12 => ?_)
 ·refine CW.skip ?_
  refine CW.seq ?_
  refine CW.block ?_
  refine SR ?_
  refine V (run_move e6_10) ?_
  refine V (aV (I _) rfl) ?_
  refine RL.nil ?_
  refine CW.regionS (by kernel_rfl) hH10 (sP (sP (sQ sR))) ?_
  intro w13 hH14
  refine AT 0 rfl (hH14.sub (sP (sP (sQ sR)))) (fun w hS => mV (I _) rfl) ?_
  refine AT 1 rfl (hH14.sub (sP (sP (sQ sR)))) (fun w hS => run_indexAddrA underlying51 sizeOf49 e2_10 rfl (by omega)) ?_
  refine AT 3 rfl (hH14.sub (sP (sP (sQ sR)))) (fun w hS => mV (I _) rfl) ?_
  refine AT 4 rfl (hH14.sub (sP (sP (sQ sR)))) (fun w hS => run_indexAddrA underlying51 sizeOf49 e3_10 rfl (by omega)) ?_
  refine AT 5 rfl (hH14.sub (sP (sP (sQ sR)))) (fun w hS => run_ld underlying49 rfl rfl (hS.cell (i := 1) rfl (elC_at _ (by omega)))) ?_
  refine A1 2 ?_
  refine AO.read rfl gnone rfl hH14 (sP (sP (sQ sR))) (run_ld underlying49 rfl rfl (hH14.cell (i := 2) rfl (elC_at _ (by omega)))) ?_
  refine AT 6 rfl (hH14.sub (sP (sP (sQ sR)))) (fun w hS => run_andU rfl rfl) ?_
  refine AT 7 rfl (hH14.sub (sP (sP (sQ sR)))) (fun w hS => run_indexAddrA underlying51 sizeOf49 e2_10 rfl (by omega)) ?_
  refine A1 8 ?_
  refine AO.set rfl gnone hH14 (j := 2) rfl (sP (sP (sQ sR))) (run_st rfl rfl (v := U _) rfl rfl rfl (hH14.blk (i := 2) rfl) (by rw [elC_size]; omega)) ?_
  intro w19 hH20
  simp only [z0, z1] at hH20
  rw [elC_put] at hH20
  refine AD ?_
  refine CW.region ?_
  refine V (run_add e6_10 rfl (by omega)) ?_
  refine V (mV (I _) rfl) ?_
  refine RL.nil ?_
  refine ⟨(k + 1, _), ?_, fr10.u4.u4.u4.u1, hH20, (congrArg I (by first | rfl | omega)), ?_, ?_, ?_⟩
  ·((try dsimp only); omega)
  ·omega
  ·omega
  ·exact meet_put hr h0
 ·refine CW.exit (id := 0) rfl ?_
  refine SR ?_
  refine V (run_ldEl underlying51 rfl rfl e2_10 (hH10.blk (i := 2) rfl)) ?_
  refine RL.set hH10 (i := 0) rfl (run_stEl rfl e4_10 rfl (hH10.blk (i := 0) rfl)) ?_
  intro w21 hH22
  simp only [z0, z1] at hH22
  refine RL.nil ?_
  refine CW.ret ?_
  refine outCg Tryz.results45 e4_10 hH22 (i := 0) rfl underlying51 rfl (by rw [elC_size]; rfl) ⟨?_, hH22.below⟩
  (exact congrArg Value.agg (elC_congr (by rw [hr]; exact mix_all ‹_›)))

theorem c_shape_each (s : Shp) (fi : FuncId) (gg : Fc → BitVec 64) (w : World) (hs : ShpV (Kw w) s) (hf : ∀ args w, (callFunc fi args).run Tryz.prog w = .ok (.enter fi args) w) (go : ∀ f w', FacV (Kw w') f → Tab w' → Calls Tryz.prog fi #[.agg (facC f)] w' (Pure (U (gg f.fc)) w')) (hT : Tab w) : Calls Tryz.prog 58 #[.agg (shpC s), .func (.func fi) #[] #[]] w (Pure (.agg (elC (eachS s.sh gg))) w) := by
 have hsl := sh_len s
 have hm := hs.facs.sl.small
 unfold maxLen at hm
 refine enter Tryz.func58 rfl Tryz.ntmps58 rfl ?_
 have hH := Hp.start w
 refine SR ?_
 refine RL.new rfl hH (f := fun b => (.pointer (some ⟨b, 0, none⟩))) (run_box (v := .agg _) rfl) ?_
 intro b3 w1 hH2
 refine RL.new rfl hH2 (f := fun b => (.pointer (some ⟨b, 0, none⟩))) (run_alloc zero_el) ?_
 intro b6 w4 hH5
 refine RL.nil ?_
 refine SR ?_
 refine RL.new rfl hH5 (f := fun b => (.pointer (some ⟨b, 0, none⟩))) (run_alloc zero_el) ?_
 intro b9 w7 hH8
 refine RL.nil ?_
 refine CW.seq ?_
 refine SR ?_
 refine V (run_ldA (cs := [B _, _]) underlying42 rfl rfl rfl (rangeAt_cells (hH8.blk (i := 2) rfl))) ?_
 refine RL.callP rfl hH8 (c_shape_Right _  _ (hs.mono hH8.kw) (hT.hp hH8)) (run_call1 call53 rfl) ?_
 intro w10 hH11
 refine RL.nil ?_
 refine CW.cond rfl (fun h13 => ?_) (fun h13 => ?_)
 ·refine SR ?_
  refine V (fA underlying42 1 rfl sizeOf40 rfl) ?_
  refine V (run_ld underlying40 rfl rfl (hH11.cell (i := 2) rfl rfl)) ?_
  refine V (run_lenSl (hs.facs.sl.hp hH11) rfl underlying40 rfl) ?_
  refine V (mV (I 0) rfl) ?_
  refine RL.nil ?_
  refine CW.block ?_
  have hln := (sh_spec ‹shR s.sh = true›).1
  refine CW.loop (G := (Int) × (El)) (fun (⟨k, e1⟩ : (Int) × (El)) s' w' => (Fr [6, 7, 13, 14, 15, 16, 17, 18, 19, 20, 21, 22, 23] _ s') ∧ (Hp w w' (.blk b9 (.cells (elC e1) 51 (0, 0)) :: _)) ∧ (s' 13 = I k) ∧ (0 ≤ k) ∧ (k ≤ s.facs.length) ∧ (e1 = mixE (eachS s.sh gg) el0 k)) (fun (⟨k, e1⟩ : (Int) × (El)) => (s.facs.length - k).toNat) ((0, el0)) ⟨Fr.refl _ _, hH11, rfl, (by omega), (by omega), (mix_zero _ _).symm⟩ ?_
  rintro ⟨k, e1⟩ sg14 w14 ⟨fr14, hH14, e13_14, h0, hk, hr⟩
  have e1_14 : sg14 1 = .func _ _ _ := (fr14 1 rfl).trans rfl
  have e4_14 : sg14 4 = Pn _ _ := (fr14 4 rfl).trans rfl
  have e5_14 : sg14 5 = Pn _ _ := (fr14 5 rfl).trans rfl
  have e11_14 := (fr14 11 rfl).trans (by conv => lhs; whnf)
  have e12_14 : sg14 12 = I _ := (fr14 12 rfl).trans rfl
  refine SR ?_
  refine V (run_lss e13_14 e12_14) ?_
  refine RL.nil ?_
  refine CW.seq ?_
  refine CW.condP rfl (fun h16 => ?_) (fun h16 => ?_)
  ·refine CW.skip ?_
   refine CW.seq ?_
   refine CW.block ?_
   refine SR ?_
   refine V (run_move e13_14) ?_
   refine V (run_indexAddrS (hs.facs.sl.hp hH14) underlying40 sizeOf59 e11_14 e13_14 (by omega)) ?_
   refine V (run_ldE (dv := fac0) facL_len (hs.facs.sl.hp hH14) underlying59 rfl rfl rfl (by omega)) ?_
   refine RL.new rfl hH14 (f := fun b => (.pointer (some ⟨b, 0, none⟩))) (run_alloc zero_fac) ?_
   intro b19 w17 hH18
   refine V (aV (I _) rfl) ?_
   refine RL.set hH18 (i := 0) rfl (run_stFac (hs.at (by omega) (by omega)) rfl rfl rfl (hH18.blk (i := 0) rfl)) ?_
   intro w20 hH21
   simp only [z0, z1] at hH21
   refine RL.nil ?_
   refine CW.region ?_
   refine V (mV (I _) rfl) ?_
   refine V (run_move e1_14) ?_
   refine V (run_ldFac underlying59 rfl rfl rfl (hH21.blk (i := 0) rfl)) ?_
   refine RL.callP rfl hH21 (go _ _ ((hs.at (by omega) (by omega)).mono hH21.kw) (hT.hp hH21)) (run_callC1 hf (cs := []) rfl rfl) ?_
   intro w22 hH23
   refine V (run_indexAddrA underlying51 sizeOf49 e5_14 rfl (by omega)) ?_
   refine RL.set hH23 (i := 1) rfl (run_st rfl rfl (v := U _) rfl rfl rfl (hH23.blk (i := 1) rfl) (by rw [elC_size]; omega)) ?_
   intro w24 hH25
   simp only [z0, z1] at hH25
   rw [elC_put] at hH25
   refine RL.nil ?_
   refine CW.region ?_
   refine V (run_add e13_14 rfl (by omega)) ?_
   refine V (mV (I _) rfl) ?_
   refine RL.nil ?_
   refine ⟨(k + 1, _), ?_, fr14.u4.u4.u4.u1, (hH25.sub (sQ sR)), (congrArg I (by first | rfl | omega)), ?_, ?_, ?_⟩
   ·((try dsimp only); omega)
   ·omega
   ·omega
   ·(have hp := each_put ‹shR s.sh = true› hr h0 (show k < s.sh.facs.length by omega); rw [sh_get] at hp; exact hp)
  ·refine CW.exit (id := 0) rfl ?_
   refine SR ?_
   refine V (run_ldEl underlying51 rfl rfl e5_14 (hH14.blk (i := 0) rfl)) ?_
   refine RL.set hH14 (i := 1) rfl (run_stEl rfl e4_14 rfl (hH14.blk (i := 1) rfl)) ?_
   intro w26 hH27
   simp only [z0, z1] at hH27
   refine RL.nil ?_
   refine CW.ret ?_
   refine outCg Tryz.results58 e4_14 hH27 (i := 1) rfl underlying51 rfl (by rw [elC_size]; rfl) ⟨?_, hH27.below⟩
   first | exact congrArg Value.agg (elC_congr (by rw [hr]; exact each_all (by omega))) | exact congrArg Value.agg (elC_congr (each_no ‹_›))
 ·refine CW.skip ?_
  refine SR ?_
  refine V (run_ldEl underlying51 rfl rfl rfl (hH11.blk (i := 0) rfl)) ?_
  refine RL.set hH11 (i := 1) rfl (run_stEl rfl rfl rfl (hH11.blk (i := 1) rfl)) ?_
  intro w28 hH29
  simp only [z0, z1] at hH29
  refine RL.nil ?_
  refine CW.ret ?_
  refine outCg Tryz.results58 rfl hH29 (i := 1) rfl underlying51 rfl (by rw [elC_size]; rfl) ⟨?_, hH29.below⟩
  first | exact congrArg Value.agg (elC_congr (by rw [hr]; exact each_all (by omega))) | exact congrArg Value.agg (elC_congr (each_no ‹_›))

theorem c_shape_least (f : Fac) (w : World) (hf : FacV (Kw w) f) (hT : Tab w) : Calls Tryz.prog 59 #[.agg (facC f)] w (Pure (U (leastF f.fc)) w) := by
 refine enter Tryz.func59 rfl Tryz.ntmps59 rfl ?_
 have hH := Hp.start w
 refine SR ?_
 refine RL.new rfl hH (f := fun b => (.pointer (some ⟨b, 0, none⟩))) (run_box (v := .agg _) rfl) ?_
 intro b3 w1 hH2
 refine V (aV (U 0#64) rfl) ?_
 refine RL.nil ?_
 refine CW.seq ?_
 refine SR ?_
 refine V (fA underlying59 0 rfl sizeOf3 rfl) ?_
 refine V (run_ld underlying3 rfl rfl (hH2.cell (i := 0) rfl (v := I _) rfl)) ?_
 refine V (run_neq rfl rfl) ?_
 refine RL.nil ?_
 refine CW.condP rfl (fun h5 => ?_) (fun h5 => ?_)
 ·refine SR ?_
  refine V (aV (U 0#64) rfl) ?_
  refine RL.nil ?_
  refine CW.ret ?_
  refine outP1 Tryz.results59 (congrArg U ?_) hH2.below
  first | exact (if_pos (show f.fc.kind ≠ 4 from ‹_›)).symm | exact (if_neg (show ¬ f.fc.kind ≠ 4 from ‹_›)).symm
 ·refine CW.skip ?_
  refine SR ?_
  refine V (fA underlying59 2 rfl sizeOf57 rfl) ?_
  refine V (run_ldBR underlying57 rfl rfl rfl (hH2.blk (i := 0) rfl)) ?_
  refine RL.callP rfl hH2 (c_hasse_Bottom _  _ (hT.hp hH2)) (run_call1 call84 rfl) ?_
  intro w6 hH7
  refine V (run_move (by conv => lhs; whnf)) ?_
  refine V (run_extract rfl (v := I _) rfl) ?_
  refine V (run_extract rfl (v := B _) rfl) ?_
  refine V (aV (I _) rfl) ?_
  refine V (aV (B _) rfl) ?_
  refine RL.nil ?_
  refine SR ?_
  refine V (fA underlying59 2 rfl sizeOf57 rfl) ?_
  refine V (run_ldBR underlying57 rfl rfl rfl (hH7.blk (i := 0) rfl)) ?_
  refine V (mV (I _) rfl) ?_
  refine RL.callP rfl hH7 (c_hasse_Word _ _  _ (hT.hp hH7)) (run_call2 call85 rfl rfl) ?_
  intro w9 hH10
  refine V (aV (U _) rfl) ?_
  refine RL.nil ?_
  refine CW.ret ?_
  refine outP1 Tryz.results59 (congrArg U ?_) hH10.below
  first | exact (if_pos (show f.fc.kind ≠ 4 from ‹_›)).symm | exact (if_neg (show ¬ f.fc.kind ≠ 4 from ‹_›)).symm

theorem c_shape_Bottom (s : Shp) (w : World) (hs : ShpV (Kw w) s) (hT : Tab w) : Calls Tryz.prog 30 #[.agg (shpC s)] w (Pure (.agg (elC (eachS s.sh leastF))) w) := by
 refine enter Tryz.func30 rfl Tryz.ntmps30 rfl ?_
 have hH := Hp.start w
 refine SR ?_
 refine RL.new rfl hH (f := fun b => (.pointer (some ⟨b, 0, none⟩))) (run_box (v := .agg _) rfl) ?_
 intro b3 w1 hH2
 refine RL.new rfl hH2 (f := fun b => (.pointer (some ⟨b, 0, none⟩))) (run_alloc zero_el) ?_
 intro b6 w4 hH5
 refine RL.nil ?_
 refine SR ?_
 refine V (run_ldA (cs := [B _, _]) underlying42 rfl rfl rfl (rangeAt_cells (hH5.blk (i := 1) rfl))) ?_
 refine RL.callP rfl hH5 (c_shape_each s 59 leastF _ (hs.mono hH5.kw) call59 (fun f w h ht => c_shape_least f w h ht) (hT.hp hH5)) (run_call2 call58 rfl rfl) ?_
 intro w7 hH8
 refine RL.set hH8 (i := 0) rfl (run_stEl rfl rfl rfl (hH8.blk (i := 0) rfl)) ?_
 intro w9 hH10
 simp only [z0, z1] at hH10
 refine RL.nil ?_
 refine CW.ret ?_
 refine outCg Tryz.results30 rfl hH10 (i := 0) rfl underlying51 rfl (by rw [elC_size]; rfl) ⟨?_, hH10.below⟩
 rfl

theorem c_clearanceref07_Leq (a b : El) (w : World) : Calls Tryz.prog 41 #[.agg (elC a), .agg (elC b)] w (Pure (B (leqE a b)) w) := by
 refine enter Tryz.func41 rfl Tryz.ntmps41 rfl ?_
 have hH := Hp.start w
 refine SR ?_
 refine RL.new rfl hH (f := fun b => (.pointer (some ⟨b, 0, none⟩))) (run_box (v := .agg _) rfl) ?_
 intro b3 w1 hH2
 refine RL.new rfl hH2 (f := fun b => (.pointer (some ⟨b, 0, none⟩))) (run_box (v := .agg _) rfl) ?_
 intro b6 w4 hH5
 refine V (aV (B false) rfl) ?_
 refine RL.nil ?_
 refine CW.seq ?_
 refine SR ?_
 refine V (aV (I 0) rfl) ?_
 refine RL.nil ?_
 refine CW.block ?_
 refine CW.loop (G := (Int)) (fun (k : Int) s' w' => (Fr [4, 5, 6, 7, 8, 9, 10, 11, 12, 13, 14, 15, 16, 17] _ s') ∧ (Hp w w' _) ∧ (s' 5 = I k) ∧ (0 ≤ k) ∧ (k ≤ 8) ∧ (∀ j : Int, 0 ≤ j → j < k → subB (a j.toNat) (b j.toNat) = true)) (fun (k : Int) => (8 - k).toNat) (0) ⟨Fr.refl _ _, hH5, rfl, (by omega), (by omega), fun j u v => absurd v (by omega)⟩ ?_
 rintro k sg7 w7 ⟨fr7, hH7, e5_7, h0, hk, hf⟩
 have e2_7 : sg7 2 = Pn _ _ := (fr7 2 rfl).trans rfl
 have e3_7 : sg7 3 = Pn _ _ := (fr7 3 rfl).trans rfl
 refine CW.seq ?_
 refine SR ?_
 refine V (run_move e5_7) ?_
 refine V (run_lss rfl rfl) ?_
 refine RL.nil ?_
 refine CW.condP rfl (fun h9 => ?_) (fun h9 => ?_)
 ·refine CW.skip ?_
  refine CW.seq ?_
  refine CW.block ?_
  refine CW.seq ?_
  refine CW.regionD (by kernel_rfl) hH7 ?_
  intro w10 hH11
  refine AT 0 rfl (hH11.sub sR) (fun w hS => run_move e5_7) ?_
  refine AT 1 rfl (hH11.sub sR) (fun w hS => run_indexAddrA underlying51 sizeOf49 e2_7 rfl (by omega)) ?_
  refine AT 2 rfl (hH11.sub sR) (fun w hS => run_ld underlying49 rfl rfl (hS.cell (i := 1) rfl (elC_at _ (by omega)))) ?_
  refine AT 3 rfl (hH11.sub sR) (fun w hS => run_move e5_7) ?_
  refine AT 4 rfl (hH11.sub sR) (fun w hS => run_indexAddrA underlying51 sizeOf49 e3_7 rfl (by omega)) ?_
  refine AT 5 rfl (hH11.sub sR) (fun w hS => run_ld underlying49 rfl rfl (hS.cell (i := 0) rfl (elC_at _ (by omega)))) ?_
  refine A1 6 ?_
  refine AO.callP rfl gnone rfl hH11 sR (c_clearanceref01_Sub _ _  _) (run_call2 call70 rfl rfl) ?_
  intro w12 hH13
  refine AT 7 rfl (hH13.sub sR) (fun w hS => run_not rfl) ?_
  refine AD ?_
  refine CW.cond rfl (fun h16 => ?_) (fun h16 => ?_)
  ·refine SR ?_
   refine V (aV (B false) rfl) ?_
   refine RL.nil ?_
   refine CW.ret ?_
   refine outP1 Tryz.results41 (congrArg B ?_) hH13.below
   first | exact (leq_no h0 ‹_› (nt ‹_›)).symm | exact (leq_yes ‹_› hf).symm
  ·refine CW.skip ?_
   refine CW.region ?_
   refine V (run_move e5_7) ?_
   refine V (run_add rfl rfl (by omega)) ?_
   refine V (aV (I _) rfl) ?_
   refine RL.nil ?_
   refine ⟨k + 1, ?_, fr7.u4.u4.u4.u1, hH13, (congrArg I (by first | rfl | omega)), ?_, ?_, ?_⟩
   ·((try dsimp only); omega)
   ·omega
   ·omega
   ·exact fun j u v => if e : j = k then e ▸ nf ‹_› else hf j u (by omega)
 ·refine CW.exit (id := 0) rfl ?_
  refine SR ?_
  refine V (aV (B true) rfl) ?_
  refine RL.nil ?_
  refine CW.ret ?_
  refine outP1 Tryz.results41 (congrArg B ?_) hH7.below
  first | exact (leq_no h0 ‹_› (nt ‹_›)).symm | exact (leq_yes ‹_› hf).symm

theorem c_clearanceref07_Meet (a b : El) (w : World) : Calls Tryz.prog 47 #[.agg (elC a), .agg (elC b)] w (Pure (.agg (elC (meetE a b))) w) := by
 refine enter Tryz.func47 rfl Tryz.ntmps47 rfl ?_
 have hH := Hp.start w
 refine SR ?_
 refine RL.new rfl hH (f := fun b => (.pointer (some ⟨b, 0, none⟩))) (run_box (v := .agg _) rfl) ?_
 intro b3 w1 hH2
 refine RL.new rfl hH2 (f := fun b => (.pointer (some ⟨b, 0, none⟩))) (run_box (v := .agg _) rfl) ?_
 intro b6 w4 hH5
 refine RL.new rfl hH5 (f := fun b => (.pointer (some ⟨b, 0, none⟩))) (run_alloc zero_el) ?_
 intro b9 w7 hH8
 refine RL.nil ?_
 refine SR ?_
 refine RL.new rfl hH8 (f := fun b => (.pointer (some ⟨b, 0, none⟩))) (run_alloc zero_el) ?_
 intro b12 w10 hH11
 refine RL.nil ?_
 refine CW.seq ?_
 refine SR ?_
 refine V (aV (I 0) rfl) ?_
 refine RL.nil ?_
 refine CW.block ?_
 refine CW.loop (G := (Int) × (El)) (fun (⟨k, e1⟩ : (Int) × (El)) s' w' => (Fr [6, 7, 8, 9, 10, 11, 12, 13, 14, 15, 16, 17, 18, 19] _ s') ∧ (Hp w w' (.blk b12 (.cells (elC e1) 51 (0, 0)) :: _)) ∧ (s' 6 = I k) ∧ (0 ≤ k) ∧ (k ≤ 8) ∧ (e1 = mixE (meetE a b) el0 k)) (fun (⟨k, e1⟩ : (Int) × (El)) => (8 - k).toNat) ((0, el0)) ⟨Fr.refl _ _, hH11, rfl, (by omega), (by omega), (mix_zero _ _).symm⟩ ?_
 rintro ⟨k, e1⟩ sg13 w13 ⟨fr13, hH13, e6_13, h0, hk, hr⟩
 have e2_13 : sg13 2 = Pn _ _ := (fr13 2 rfl).trans rfl
 have e3_13 : sg13 3 = Pn _ _ := (fr13 3 rfl).trans rfl
 have e4_13 : sg13 4 = Pn _ _ := (fr13 4 rfl).trans rfl
 have e5_13 : sg13 5 = Pn _ _ := (fr13 5 rfl).trans rfl
 refine CW.seq ?_
 refine SR ?_
 refine V (run_move e6_13) ?_
 refine V (run_lss rfl rfl) ?_
 refine RL.nil ?_
 refine CW.condP rfl (fun h15 => ?_) (fun h15 => ?_)
 ·refine CW.skip ?_
  refine CW.seq ?_
  refine CW.block ?_
  refine CW.regionS (by kernel_rfl) hH13 (sQ sR) ?_
  intro w16 hH17
  refine AT 0 rfl (hH17.sub (sQ sR)) (fun w hS => run_move e6_13) ?_
  refine AT 1 rfl (hH17.sub (sQ sR)) (fun w hS => run_move e6_13) ?_
  refine AT 2 rfl (hH17.sub (sQ sR)) (fun w hS => run_indexAddrA underlying51 sizeOf49 e2_13 rfl (by omega)) ?_
  refine AT 3 rfl (hH17.sub (sQ sR)) (fun w hS => run_ld underlying49 rfl rfl (hS.cell (i := 2) rfl (elC_at _ (by omega)))) ?_
  refine AT 4 rfl (hH17.sub (sQ sR)) (fun w hS => run_move e6_13) ?_
  refine AT 5 rfl (hH17.sub (sQ sR)) (fun w hS => run_indexAddrA underlying51 sizeOf49 e3_13 rfl (by omega)) ?_
  refine AT 6 rfl (hH17.sub (sQ sR)) (fun w hS => run_ld underlying49 rfl rfl (hS.cell (i := 1) rfl (elC_at _ (by omega)))) ?_
  refine AT 7 rfl (hH17.sub (sQ sR)) (fun w hS => run_andU rfl rfl) ?_
  refine AT 8 rfl (hH17.sub (sQ sR)) (fun w hS => run_indexAddrA underlying51 sizeOf49 e5_13 rfl (by omega)) ?_
  refine A1 9 ?_
  refine AO.set rfl gnone hH17 (j := 0) rfl (sQ sR) (run_st rfl rfl (v := U _) rfl rfl rfl (hH17.blk (i := 0) rfl) (by rw [elC_size]; omega)) ?_
  intro w20 hH21
  simp only [z0, z1] at hH21
  rw [elC_put] at hH21
  refine AD ?_
  refine CW.region ?_
  refine V (run_move e6_13) ?_
  refine V (run_add rfl rfl (by omega)) ?_
  refine V (aV (I _) rfl) ?_
  refine RL.nil ?_
  refine ⟨(k + 1, _), ?_, fr13.u4.u4.u4.u1.u1, hH21, (congrArg I (by first | rfl | omega)), ?_, ?_, ?_⟩
  ·((try dsimp only); omega)
  ·omega
  ·omega
  ·exact meet_putR hr h0
 ·refine CW.exit (id := 0) rfl ?_
  refine SR ?_
  refine V (run_ldEl underlying51 rfl rfl e5_13 (hH13.blk (i := 0) rfl)) ?_
  refine RL.set hH13 (i := 1) rfl (run_stEl rfl e4_13 rfl (hH13.blk (i := 1) rfl)) ?_
  intro w22 hH23
  simp only [z0, z1] at hH23
  refine RL.nil ?_
  refine CW.ret ?_
  refine outCg Tryz.results47 e4_13 hH23 (i := 1) rfl underlying51 rfl (by rw [elC_size]; rfl) ⟨?_, hH23.below⟩
  (exact congrArg Value.agg (elC_congr (by rw [hr]; exact mix_all ‹_›)))

theorem c_spell_kind (f : Fac) (w : World) : Calls Tryz.prog 119 #[.agg (facC f)] w (Pure (I (kindN f.fc)) w) := by
 refine enter Tryz.func119 rfl Tryz.ntmps119 rfl ?_
 have hH := Hp.start w
 refine SR ?_
 refine RL.new rfl hH (f := fun b => (.pointer (some ⟨b, 0, none⟩))) (run_box (v := .agg _) rfl) ?_
 intro b3 w1 hH2
 refine V (aV (I 0) rfl) ?_
 refine RL.nil ?_
 refine CW.seq ?_
 refine SR ?_
 refine V (fA underlying59 0 rfl sizeOf3 rfl) ?_
 refine V (run_ld underlying3 rfl rfl (hH2.cell (i := 0) rfl (v := I _) rfl)) ?_
 refine RL.nil ?_
 refine CW.block ?_
 refine SR ?_
 refine V (run_eql rfl rfl) ?_
 refine V (aV (B _) rfl) ?_
 refine RL.nil ?_
 refine CW.condP rfl (fun h5 => ?_) (fun h5 => ?_)
 ·refine SR ?_
  refine V (aV (I 3) rfl) ?_
  refine RL.nil ?_
  refine CW.ret ?_
  refine outP1 Tryz.results119 (congrArg I ?_) hH2.below
  (simp [kindN, Fac.fc, *])
 ·refine SR ?_
  refine V (run_eql rfl rfl) ?_
  refine V (aV (B _) rfl) ?_
  refine RL.nil ?_
  refine CW.condP rfl (fun h7 => ?_) (fun h7 => ?_)
  ·refine SR ?_
   refine V (aV (I 5) rfl) ?_
   refine RL.nil ?_
   refine CW.ret ?_
   refine outP1 Tryz.results119 (congrArg I ?_) hH2.below
   (simp [kindN, Fac.fc, *])
  ·refine CW.skip ?_
   refine SR ?_
   refine V (aV (I 2) rfl) ?_
   refine RL.nil ?_
   refine CW.ret ?_
   refine outP1 Tryz.results119 (congrArg I ?_) hH2.below
   (simp [kindN, Fac.fc, *])

theorem c_spell_constant_1_1 (W0 : World) (b c : Nat) (v : Value) (l : List Int) (f : Fac) (i : Int) (hi : 0 ≤ i ∧ i < f.names.length) (w : World) (hH : Hp W0 w [.row v 128 2 l.length ((l.map (wdN f.names)).flatMap wdL), .blk b (.cells #[v] 93 (0, 0))]) (hlen : l.length ≤ 64) (hf : FacV (Kw W0) f) (hc : W0.heap[c]? = some (.cells (facC f) 59 (0, 0))) : Calls Tryz.prog 118 #[I i, .pointer (some ⟨b, 0, none⟩), .pointer (some ⟨c, 0, none⟩)] w (Ret fun u w' => u = B true ∧ ∃ v', Hp W0 w' [.row v' 128 2 (l ++ [i]).length (((l ++ [i]).map (wdN f.names)).flatMap wdL), .blk b (.cells #[v'] 93 (0, 0))]) := by
 refine enter Tryz.func118 rfl Tryz.ntmps118 rfl ?_
 refine SR ?_
 refine V (aV (B false) rfl) ?_
 refine RL.nil ?_
 refine CW.seq ?_
 refine CW.regionS (by kernel_rfl) hH (sQ (sQ sR)) ?_
 intro w1 hH2
 refine AT 1 rfl (hH2.sub (sQ (sQ sR))) (fun w hS => fA underlying59 1 rfl sizeOf54 rfl) ?_
 refine AT 2 rfl (hH2.sub (sQ (sQ sR))) (fun w hS => run_ld underlying54 rfl rfl (hS.extCell hc rfl)) ?_
 refine AT 3 rfl (hH2.sub (sQ (sQ sR))) (fun w hS => mV (I _) rfl) ?_
 refine AT 4 rfl (hH2.sub (sQ (sQ sR))) (fun w hS => run_indexAddrS (hf.names.sl.hp hS) underlying54 sizeOf9 rfl rfl (by omega)) ?_
 refine AT 5 rfl (hH2.sub (sQ (sQ sR))) (fun w hS => run_ld underlying9 rfl rfl ((hf.names.sl.hp hS).cell _ _ (txL_at (by omega)))) ?_
 refine AT 6 rfl (hH2.sub (sQ (sQ sR))) (fun w hS => run_bld (vs := [(0, S _)]) rfl (built_wdLs _)) ?_
 refine AN.two 0 7 (by kernel_rfl) ?_ ?_
 ·refine AO.read rfl gnone rfl hH2 (sQ (sQ sR)) (run_ld underlying93 rfl rfl (hH2.cell (i := 1) rfl rfl)) ?_
  refine A1 7 ?_
  refine AO.new rfl gnone rfl hH2 (sQ (sQ sR)) (f := fun b => .slice (some ⟨b, 0, none⟩) 1 1) (run_mkRecs wdL_len underlying93 rfl rfl rfl (l := [_]) rfl (by decide) (by decide) rfl) ?_
  intro b7 w5 hH6
  refine A1 8 ?_
  refine AO.app rfl gnone rfl hH6 (j := 1) rfl (fun _ => (sQ (sQ (sQ sR)))) (Hp.slFlat wdL_len hH6 (i := 0) (l := [_]) rfl (by simp [maxLen])) rfl rfl underlying93 rfl rfl (size := 2) (bytes := 24) rfl rfl rfl (by decide) (by simp [wdL, Value.oneCell']) (by simp only [List.length_cons, List.length_nil]; omega) (by simp only [maxLen, List.length_cons, List.length_nil]; omega) ?_
  intro v10 w8 hH9
  simp only [z0, z1] at hH9
  refine A1 9 ?_
  refine AO.set rfl gnone hH9 (j := 2) rfl (sQ (sQ (sQ sR))) (run_st rfl rfl (v := v10) rfl (row_cells (hH9.get (i := 1) rfl)).1 (row_cells (hH9.get (i := 1) rfl)).2 (hH9.blk (i := 2) rfl) (by first | decide | simp)) ?_
  intro w11 hH12
  simp only [z0, z1] at hH12
  refine AD ?_
  refine SR ?_
  refine V (aV (B true) rfl) ?_
  refine RL.nil ?_
  refine CW.ret ?_
  exact out1 Tryz.results118 rfl ⟨rfl, (v10 : Value), Hp.conv hH12.tail (by simp [wdN])⟩
 ·refine AO.new rfl gnone rfl hH2 (sQ (sQ sR)) (f := fun b => .slice (some ⟨b, 0, none⟩) 1 1) (run_mkRecs wdL_len underlying93 rfl rfl rfl (l := [_]) rfl (by decide) (by decide) rfl) ?_
  intro b15 w13 hH14
  refine A1 0 ?_
  refine AO.read rfl gnone rfl hH14 (sQ (sQ (sQ sR))) (run_ld underlying93 rfl rfl (hH14.cell (i := 2) rfl rfl)) ?_
  refine A1 8 ?_
  refine AO.app rfl gnone rfl hH14 (j := 1) rfl (fun _ => (sQ (sQ (sQ sR)))) (Hp.slFlat wdL_len hH14 (i := 0) (l := [_]) rfl (by simp [maxLen])) rfl rfl underlying93 rfl rfl (size := 2) (bytes := 24) rfl rfl rfl (by decide) (by simp [wdL, Value.oneCell']) (by simp only [List.length_cons, List.length_nil]; omega) (by simp only [maxLen, List.length_cons, List.length_nil]; omega) ?_
  intro v20 w18 hH19
  simp only [z0, z1] at hH19
  refine A1 9 ?_
  refine AO.set rfl gnone hH19 (j := 2) rfl (sQ (sQ (sQ sR))) (run_st rfl rfl (v := v20) rfl (row_cells (hH19.get (i := 1) rfl)).1 (row_cells (hH19.get (i := 1) rfl)).2 (hH19.blk (i := 2) rfl) (by first | decide | simp)) ?_
  intro w21 hH22
  simp only [z0, z1] at hH22
  refine AD ?_
  refine SR ?_
  refine V (aV (B true) rfl) ?_
  refine RL.nil ?_
  refine CW.ret ?_
  exact out1 Tryz.results118 rfl ⟨rfl, (v20 : Value), Hp.conv hH22.tail (by simp [wdN])⟩

theorem c_spell_constant_1 (K : Vu) (c : Nat) (f : Fac) (s : BitVec 64) (hw : subB s (below f.names.length) = true) (w : World) (hK : Le K (Kw w)) (hf : FacV (Kw w) f) (hc : w.heap[c]? = some (.cells (facC f) 59 (0, 0))) (hT : Tab w) : Calls Tryz.prog 116 #[U s, .pointer (some ⟨c, 0, none⟩)] w (PureF K (fun K' u => SlV K' u 2 (namesOf f.names s).length ((namesOf f.names s).flatMap wdL)) w) := by
 refine enter Tryz.func116 rfl Tryz.ntmps116 rfl ?_
 have hH := Hp.start w
 refine SR ?_
 refine V (aV (.slice none 0 0) rfl) ?_
 refine RL.nil ?_
 refine SR ?_
 refine RL.new rfl hH (f := fun b => (.pointer (some ⟨b, 0, none⟩))) (run_alloc Tryz.zeroValue93) ?_
 intro b3 w1 hH2
 have hH4 := hH2.nilRow 128 2
 refine RL.nil ?_
 refine SR ?_
 refine V (mV (U _) rfl) ?_
 refine V (run_mkF2 (by conv => lhs; whnf) (by conv => lhs; whnf)) ?_
 refine RL.call rfl (run_call2 call117 (v1 := U s) rfl (v2 := .func (.func 118) #[] #[.pointer (some ⟨b3, 0, none⟩), .pointer (some ⟨c, 0, none⟩)]) rfl) (c_mask_Each 118 _ (fun l w' => ∃ v, Hp w w' [.row v 128 2 l.length ((l.map (wdN f.names)).flatMap wdL), .blk b3 (.cells #[v] 93 (0, 0))]) (fun _ _ => False) s _ call118 (fun l w' w'' h hb => h.imp fun v h => h.call hb) (fun l w' h => h.elim fun v h => hT.hp h) (fun l i r w' he h => h.elim fun v h => by
   have hl64 : l.length ≤ 64 := by have := lst_len s; rw [he] at this; simp at this; omega
   have hi : 0 ≤ i ∧ i < f.names.length := lst_in hw (by rw [he]; simp)
   refine Ret.calls (c_spell_constant_1_1 w b3 c v l f i hi w' h hl64 hf hc) ?_
   intro u w2 hq
   exact ⟨true, hq.1, fun _ => hq.2, fun h => by cases h⟩) ⟨.slice none 0 0, hH4⟩) ?_
 rintro u w5 ⟨rfl, hor⟩
 obtain ⟨v7, hH6⟩ := hor.resolve_right (fun ⟨_, _, _, _, h⟩ => h)
 refine RL.nil ?_
 refine SR ?_
 refine V (run_ld underlying93 rfl rfl (hH6.cell (i := 1) rfl rfl)) ?_
 refine V (run_assign (by conv => lhs; whnf)) ?_
 refine RL.nil ?_
 refine CW.ret ?_
 obtain ⟨Z8, hz9, hv10, -⟩ := hH6.frz (K)
 have hH11 : Hp _ w5 (_ :: Z8) := hz9.zin0 (L := [_])
 refine out1 Tryz.results116 rfl ⟨Z8, (hH11.sub (sQ sR)), ?_⟩
 rw [namesOf_def, List.length_map]; exact hv10

theorem c_spell_constant (K : Vu) (f : Fac) (s : BitVec 64) (hR : factorR f.fc = true) (hw : wordF f.fc s = true) (w : World) (hK : Le K (Kw w)) (hf : FacV K f) (hT : Tab w) : Calls Tryz.prog 94 #[.agg (facC f), U s] w (PureF K (fun K' u => ∃ n : NodeR, u = .agg (nodeL n).toArray ∧ n.nd = constF f.fc s ∧ NodeV K' n) w) := by
 have hm1 := hf.names.small
 unfold maxLen at hm1
 have hno := (named_spec (fac_named hR)).1
 refine enter Tryz.func94 rfl Tryz.ntmps94 rfl ?_
 have hH := Hp.start w
 refine SR ?_
 refine RL.new rfl hH (f := fun b => (.pointer (some ⟨b, 0, none⟩))) (run_box (v := .agg _) rfl) ?_
 intro b3 w1 hH2
 refine RL.new rfl hH2 (f := fun b => (.pointer (some ⟨b, 0, none⟩))) (run_alloc Tryz.zeroValue96) ?_
 intro b6 w4 hH5
 refine RL.nil ?_
 refine SR ?_
 refine V (run_mkF1 (by conv => lhs; whnf)) ?_
 refine V (aV (.func _ _ _) rfl) ?_
 refine RL.nil ?_
 refine SR ?_
 refine V (run_ldFac underlying59 rfl rfl rfl (hH5.blk (i := 1) rfl)) ?_
 refine RL.callP rfl hH5 (c_spell_kind _  _) (run_call1 call119 rfl) ?_
 intro w7 hH8
 refine V (run_bld (vs := [(0, I (kindN f.fc))]) rfl (built_nodeK (kindN f.fc))) ?_
 refine RL.new rfl hH8 (f := fun b => (.pointer (some ⟨b, 0, none⟩))) (run_alloc Tryz.zeroValue96) ?_
 intro b11 w9 hH10
 refine RL.set hH10 (i := 0) rfl (run_stW (c' := (nodeL (kindR (kindN f.fc) tx0 (.slice none 0 0) [])).toArray) rfl rfl rfl (nodeL_one (kindR_v (SlV.nil (Kw w) _))) (hH10.blk (i := 0) rfl) rfl) ?_
 intro w12 hH13
 simp only [z0, z1] at hH13
 have hH14 := hH13.nilRow 96 5
 refine RL.nil ?_
 refine CW.seq ?_
 refine SR ?_
 refine V (fA underlying59 0 rfl sizeOf3 rfl) ?_
 refine V (run_ld underlying3 rfl rfl (hH14.cell (i := 3) rfl (v := I _) rfl)) ?_
 refine RL.nil ?_
 refine CW.block ?_
 refine SR ?_
 refine V (run_eql rfl rfl) ?_
 refine V (aV (B _) rfl) ?_
 refine RL.nil ?_
 refine CW.condP rfl (fun h16 => ?_) (fun h16 => ?_)
 ·refine CW.region ?_
  refine V (mV (.func _ _ _) rfl) ?_
  refine V (mV (U _) rfl) ?_
  refine RL.callF rfl hH14 (c_spell_constant_1 K b3 f s (sub_2 (f := f.fc) ‹f.kind = 2› hw) _ (hK.trans hH14.kw) (hf.mono (hK.trans hH14.kw)) (hH14.blk (i := 3) rfl) (hT.hp hH14)) (run_callC1 call116 (cs := [.pointer (some ⟨b3, 0, none⟩)]) rfl rfl) ?_
  intro v19 w20 Z22 hH21 hp23
  have hH24 : Hp _ w20 (_ :: _ :: _ :: _ :: Z22) := hH21.zin0 (L := [_, _, _, _])
  have hv25 := hp23
  refine V (fA underlying96 3 rfl sizeOf93 rfl) ?_
  refine RL.set hH24 (i := 1) rfl (run_st rfl rfl (v := v19) rfl (one_slv hv25).2 (one_slv hv25).1 (hH24.blk (i := 1) rfl) (by first | (show 3 < 5; decide) | decide | (simp only [List.size_toArray, nodeL_len]; decide) | simp)) ?_
  intro w26 hH27
  simp only [z0, z1] at hH27
  refine RL.nil ?_
  refine SR ?_
  have hN28 : NodeV (Kz K Z22) ((kindR (kindN f.fc) tx0 v19 (namesOf f.names s))) := kindR_v hv25
  refine V (run_ldA (cs := nodeL ((kindR (kindN f.fc) tx0 v19 (namesOf f.names s)))) underlying96 rfl rfl rfl (rangeAt_cells (hH27.blk (i := 1) rfl))) ?_
  refine RL.set hH27 (i := 2) rfl (run_stW (c' := (nodeL ((kindR (kindN f.fc) tx0 v19 (namesOf f.names s)))).toArray) rfl rfl rfl (nodeL_one hN28) (hH27.blk (i := 2) rfl) rfl) ?_
  intro w29 hH30
  simp only [z0, z1] at hH30
  refine RL.nil ?_
  refine CW.ret ?_
  refine outCg Tryz.results94 rfl hH30 (i := 2) rfl underlying96 rfl rfl ⟨Z22, (hH30.sub (sQ (sQ (sQ (sQ sR))))), (kindR (kindN f.fc) tx0 v19 (namesOf f.names s)), rfl, ?_, hN28⟩
  exact nd_2 ‹_›
 ·refine SR ?_
  refine V (run_eql rfl rfl) ?_
  refine V (aV (B _) rfl) ?_
  refine RL.nil ?_
  refine CW.condP rfl (fun h32 => ?_) (fun h32 => ?_)
  ·refine SR ?_
   refine V (fA underlying59 2 rfl sizeOf57 rfl) ?_
   refine V (run_ldBR underlying57 rfl rfl rfl (hH14.blk (i := 3) rfl)) ?_
   refine V (mV (U _) rfl) ?_
   refine RL.callP rfl hH14 (c_grid_Owners _ _  _) (run_call2 call121 rfl rfl) ?_
   intro w33 hH34
   refine RL.callR rfl hH34 (c_mask_List _  _ (hT.hp hH34)) (run_call1 call120 rfl) ?_
   intro v37 w35 hH36
   refine V (run_lenSl (hH36.sl (i := 0) rfl) rfl underlying111 rfl) ?_
   refine V (mV (I 0) rfl) ?_
   refine RL.nil ?_
   refine CW.block ?_
   refine CW.loop (G := (Int) × (Value) × (List NodeR) × (List Ent)) (fun (⟨k, kv, gs, Z⟩ : (Int) × (Value) × (List NodeR) × (List Ent)) s' w' => (Fr [8, 47, 48, 49, 50, 51, 52, 53, 54, 55, 56, 57, 58, 59, 60, 61, 62, 63, 64, 65, 66, 67, 68, 69] _ s') ∧ (Hp w w' (_ :: .row kv 96 5 (gs.length) (gs.flatMap nodeL) :: .blk b11 (.cells ((nodeL (kidsR (kindN f.fc) kv gs)).toArray) 96 (0, 0)) :: _ :: _ :: Z)) ∧ (s' 47 = I k) ∧ (0 ≤ k) ∧ (k ≤ (lst (ownersG f.rel s)).length) ∧ (gs.map NodeR.nd = rulesTo f.fc s k) ∧ (NodesV (Kz K Z) gs) ∧ ((gs.length : Int) = k)) (fun (⟨k, kv, gs, Z⟩ : (Int) × (Value) × (List NodeR) × (List Ent)) => ((lst (ownersG f.rel s)).length - k).toNat) ((0, (.slice none 0 0 : Value), [], [])) ⟨Fr.refl _ _, hH36, rfl, (by omega), (by omega), rfl, NodesV.nil _, rfl⟩ ?_
   rintro ⟨k, kv, gs, Z⟩ sg38 w38 ⟨fr38, hH38, e47_38, h0, hk, hm, hF, hb⟩
   have e1_38 : sg38 1 = U _ := (fr38 1 rfl).trans rfl
   have e2_38 : sg38 2 = Pn _ _ := (fr38 2 rfl).trans rfl
   have e4_38 : sg38 4 = Pn _ _ := (fr38 4 rfl).trans rfl
   have e5_38 : sg38 5 = .func _ _ _ := (fr38 5 rfl).trans rfl
   have e6_38 : sg38 6 = Pn _ _ := (fr38 6 rfl).trans rfl
   have e45_38 := (fr38 45 rfl).trans (by conv => lhs; whnf)
   have e46_38 : sg38 46 = I _ := (fr38 46 rfl).trans rfl
   have hl64 := lst_len (ownersG f.rel s)
   refine SR ?_
   refine V (run_lss e47_38 e46_38) ?_
   refine RL.nil ?_
   refine CW.seq ?_
   refine CW.condP rfl (fun h40 => ?_) (fun h40 => ?_)
   ·refine CW.skip ?_
    refine CW.seq ?_
    refine CW.block ?_
    refine SR ?_
    refine V (run_indexAddrS (hH38.sl (i := 0) rfl) underlying111 sizeOf3 e45_38 e47_38 (by first | omega | exact own_at (f := f.fc) hR ‹f.kind = 3› s h0 ‹k < _› | exact pt_in (f := f.fc) hR ‹f.kind = 4› hw | exact lv_in (f := f.fc) (kind_cases hR ‹_› ‹_› ‹_›) hw)) ?_
    refine V (run_ld underlying3 rfl rfl ((hH38.sl (i := 0) rfl).cell _ _ (map_at (by omega)))) ?_
    refine V (aV (I _) rfl) ?_
    refine RL.nil ?_
    refine CW.regionS (by kernel_rfl) hH38 (sP (sQ (sQ sR))) ?_
    intro w41 hH42
    refine AT 0 rfl (hH42.sub (sP (sQ (sQ sR)))) (fun w hS => fA underlying96 4 rfl sizeOf94 e6_38) ?_
    refine AT 2 rfl (hH42.sub (sP (sQ (sQ sR)))) (fun w hS => fA underlying59 1 rfl sizeOf54 e2_38) ?_
    refine AT 3 rfl (hH42.sub (sP (sQ (sQ sR)))) (fun w hS => run_ld underlying54 rfl rfl (hS.cell (i := 2) rfl rfl)) ?_
    refine AT 4 rfl (hH42.sub (sP (sQ (sQ sR)))) (fun w hS => mV (I _) rfl) ?_
    refine AT 5 rfl (hH42.sub (sP (sQ (sQ sR)))) (fun w hS => run_indexAddrS ((hf.mono hK).names.sl.hp hS) underlying54 sizeOf9 rfl rfl (by first | omega | exact own_at (f := f.fc) hR ‹f.kind = 3› s h0 ‹k < _› | exact pt_in (f := f.fc) hR ‹f.kind = 4› hw | exact lv_in (f := f.fc) (kind_cases hR ‹_› ‹_› ‹_›) hw)) ?_
    refine AT 6 rfl (hH42.sub (sP (sQ (sQ sR)))) (fun w hS => run_ld underlying9 rfl rfl (((hf.mono hK).names.sl.hp hS).cell _ _ (txL_at (by first | omega | exact own_at (f := f.fc) hR ‹f.kind = 3› s h0 ‹k < _› | exact pt_in (f := f.fc) hR ‹f.kind = 4› hw | exact lv_in (f := f.fc) (kind_cases hR ‹_› ‹_› ‹_›) hw)))) ?_
    refine AT 7 rfl (hH42.sub (sP (sQ (sQ sR)))) (fun w hS => run_move e5_38) ?_
    refine AT 8 rfl (hH42.sub (sP (sQ (sQ sR)))) (fun w hS => fA underlying59 2 rfl sizeOf57 e2_38) ?_
    refine AT 9 rfl (hH42.sub (sP (sQ (sQ sR)))) (fun w hS => run_ldBR underlying57 rfl rfl rfl (hS.blk (i := 2) rfl)) ?_
    refine AT 10 rfl (hH42.sub (sP (sQ (sQ sR)))) (fun w hS => run_move e1_38) ?_
    refine AT 11 rfl (hH42.sub (sP (sQ (sQ sR)))) (fun w hS => mV (I _) rfl) ?_
    refine AN.two 1 12 (by kernel_rfl) ?_ ?_
    ·refine AO.read rfl gnone rfl hH42 (sP (sQ (sQ sR))) (run_ld underlying94 rfl rfl (hH42.cell (i := 2) rfl rfl)) ?_
     refine A1 12 ?_
     refine AO.callP rfl gnone rfl hH42 (sP (sQ (sQ sR))) (c_grid_Readers _ _ _  _) (run_call3 call122 rfl rfl rfl) ?_
     intro w45 hH46
     refine A1 13 ?_
     refine AO.callF rfl gnone rfl hH46 (sP (sQ (sQ sR))) (c_spell_constant_1 K b3 f (readersG f.rel s ((lst (ownersG f.rel s)).getD k.toNat 0)) (sub_r (f := f.fc) hR ‹f.kind = 3› _ _) _ (hK.trans hH46.kw) (hf.mono (hK.trans hH46.kw)) (hH46.blk (i := 4) rfl) (hT.hp hH46)) (run_callC1 call116 (cs := [.pointer (some ⟨b3, 0, none⟩)]) rfl rfl) ?_
     intro v49 w50 Z52 hH51 hp53
     have hH54 : Hp _ w50 (_ :: _ :: _ :: _ :: _ :: (Z52 ++ Z)) := hH51.zin (L := [_, _, _, _, _]) (L' := Z)
     have hv55 := hp53
     refine AT 14 rfl (hH54.sub (sP (sQ (sQ (sP (sP (sA sR))))))) (fun w hS => run_bld (vs := [(0, I 6), (2, S (f.names.getD ((lst (ownersG f.rel s)).getD k.toNat 0).toNat tx0)), (3, v49)]) rfl (built_nodeTN (one_slv hv55).2 6 (f.names.getD ((lst (ownersG f.rel s)).getD k.toNat 0).toNat tx0) (namesOf f.names (readersG f.rel s ((lst (ownersG f.rel s)).getD k.toNat 0))))) ?_
     refine A1 15 ?_
     refine AO.new rfl gnone rfl hH54 (sP (sQ (sQ (sP (sP (sA sR)))))) (f := fun b => .slice (some ⟨b, 0, none⟩) 1 1) (run_mkRecs nodeL_len underlying94 rfl rfl rfl (l := [(kindR 6 (f.names.getD ((lst (ownersG f.rel s)).getD k.toNat 0).toNat tx0) v49 (namesOf f.names (readersG f.rel s ((lst (ownersG f.rel s)).getD k.toNat 0))))]) rfl (by decide) (by decide) rfl) ?_
     intro b58 w56 hH57
     refine A1 16 ?_
     refine AO.app rfl gnone rfl hH57 (j := 2) rfl (fun _ => (sQ (sP (sQ (sQ (sP (sP (sA sR)))))))) (Hp.slFlat nodeL_len hH57 (i := 0) (l := [(kindR 6 (f.names.getD ((lst (ownersG f.rel s)).getD k.toNat 0).toNat tx0) v49 (namesOf f.names (readersG f.rel s ((lst (ownersG f.rel s)).getD k.toNat 0))))]) rfl (by simp [maxLen])) rfl rfl underlying94 rfl rfl (size := 5) (bytes := 80) rfl rfl rfl (by decide) (node1_one (kindR_v hv55)) (by simp only [List.length_cons, List.length_nil]; omega) (by simp only [maxLen, List.length_cons, List.length_nil]; omega) ?_
     intro v61 w59 hH60
     simp only [z0, z1] at hH60
     refine AT 17 rfl (hH60.sub (sQ (sP (sQ (sQ (sP (sP (sA sR)))))))) (fun w hS => fA underlying96 4 rfl sizeOf94 e6_38) ?_
     refine A1 18 ?_
     refine AO.set rfl gnone hH60 (j := 3) rfl (sQ (sP (sQ (sQ (sP (sP (sA sR))))))) (run_st rfl rfl (v := v61) rfl (row_cells (hH60.get (i := 2) rfl)).1 (row_cells (hH60.get (i := 2) rfl)).2 (hH60.blk (i := 3) rfl) (by first | (show 4 < 5; decide) | decide | (simp only [List.size_toArray, nodeL_len]; decide) | simp)) ?_
     intro w64 hH65
     simp only [z0, z1] at hH65
     refine AD ?_
     refine CW.region ?_
     refine V (run_add e47_38 rfl (by omega)) ?_
     refine V (mV (I _) rfl) ?_
     refine RL.nil ?_
     refine ⟨(k + 1, v61, (gs ++ [(kindR 6 (f.names.getD ((lst (ownersG f.rel s)).getD k.toNat 0).toNat tx0) v49 (namesOf f.names (readersG f.rel s ((lst (ownersG f.rel s)).getD k.toNat 0))))]), (Z52 ++ Z)), ?_, fr38.u4.u4.u4.u4.u4.u4, (Hp.conv (hH65.sub (sQ sR)) (by first | rfl | (simp; done) | (simp [nodeL, kidsR, kindR, NodeR.kind, NodeR.place, NodeR.text, NodeR.nv, NodeR.kv]; done))), (congrArg I (by first | rfl | omega)), ?_, ?_, ?_, ?_, ?_⟩
     ·((try dsimp only); omega)
     ·omega
     ·omega
     ·rw [rules_next (f := f.fc) h0 ‹k < _›, List.map_append, hm]; exact congrArg (_ ++ [·]) (rule_nd (f := f.fc) (w := s) (o := ((lst (ownersG f.rel s)).getD k.toNat 0)))
     ·exact (hF.mono (Le.zz fun y hy => List.mem_append_right _ hy)).snoc (NodeV.mono (Le.zz fun y hy => List.mem_append_left _ hy) (kindR_v hv55))
     ·simp only [List.length_append, List.length_singleton]; omega
    ·refine AO.callP rfl gnone rfl hH42 (sP (sQ (sQ sR))) (c_grid_Readers _ _ _  _) (run_call3 call122 rfl rfl rfl) ?_
     intro w66 hH67
     refine AN.two 1 13 (by kernel_rfl) ?_ ?_
     ·refine AO.read rfl gnone rfl hH67 (sP (sQ (sQ sR))) (run_ld underlying94 rfl rfl (hH67.cell (i := 2) rfl rfl)) ?_
      refine A1 13 ?_
      refine AO.callF rfl gnone rfl hH67 (sP (sQ (sQ sR))) (c_spell_constant_1 K b3 f (readersG f.rel s ((lst (ownersG f.rel s)).getD k.toNat 0)) (sub_r (f := f.fc) hR ‹f.kind = 3› _ _) _ (hK.trans hH67.kw) (hf.mono (hK.trans hH67.kw)) (hH67.blk (i := 4) rfl) (hT.hp hH67)) (run_callC1 call116 (cs := [.pointer (some ⟨b3, 0, none⟩)]) rfl rfl) ?_
      intro v72 w73 Z75 hH74 hp76
      have hH77 : Hp _ w73 (_ :: _ :: _ :: _ :: _ :: (Z75 ++ Z)) := hH74.zin (L := [_, _, _, _, _]) (L' := Z)
      have hv78 := hp76
      refine AT 14 rfl (hH77.sub (sP (sQ (sQ (sP (sP (sA sR))))))) (fun w hS => run_bld (vs := [(0, I 6), (2, S (f.names.getD ((lst (ownersG f.rel s)).getD k.toNat 0).toNat tx0)), (3, v72)]) rfl (built_nodeTN (one_slv hv78).2 6 (f.names.getD ((lst (ownersG f.rel s)).getD k.toNat 0).toNat tx0) (namesOf f.names (readersG f.rel s ((lst (ownersG f.rel s)).getD k.toNat 0))))) ?_
      refine A1 15 ?_
      refine AO.new rfl gnone rfl hH77 (sP (sQ (sQ (sP (sP (sA sR)))))) (f := fun b => .slice (some ⟨b, 0, none⟩) 1 1) (run_mkRecs nodeL_len underlying94 rfl rfl rfl (l := [(kindR 6 (f.names.getD ((lst (ownersG f.rel s)).getD k.toNat 0).toNat tx0) v72 (namesOf f.names (readersG f.rel s ((lst (ownersG f.rel s)).getD k.toNat 0))))]) rfl (by decide) (by decide) rfl) ?_
      intro b81 w79 hH80
      refine A1 16 ?_
      refine AO.app rfl gnone rfl hH80 (j := 2) rfl (fun _ => (sQ (sP (sQ (sQ (sP (sP (sA sR)))))))) (Hp.slFlat nodeL_len hH80 (i := 0) (l := [(kindR 6 (f.names.getD ((lst (ownersG f.rel s)).getD k.toNat 0).toNat tx0) v72 (namesOf f.names (readersG f.rel s ((lst (ownersG f.rel s)).getD k.toNat 0))))]) rfl (by simp [maxLen])) rfl rfl underlying94 rfl rfl (size := 5) (bytes := 80) rfl rfl rfl (by decide) (node1_one (kindR_v hv78)) (by simp only [List.length_cons, List.length_nil]; omega) (by simp only [maxLen, List.length_cons, List.length_nil]; omega) ?_
      intro v84 w82 hH83
      simp only [z0, z1] at hH83
      refine AT 17 rfl (hH83.sub (sQ (sP (sQ (sQ (sP (sP (sA sR)))))))) (fun w hS => fA underlying96 4 rfl sizeOf94 e6_38) ?_
      refine A1 18 ?_
      refine AO.set rfl gnone hH83 (j := 3) rfl (sQ (sP (sQ (sQ (sP (sP (sA sR))))))) (run_st rfl rfl (v := v84) rfl (row_cells (hH83.get (i := 2) rfl)).1 (row_cells (hH83.get (i := 2) rfl)).2 (hH83.blk (i := 3) rfl) (by first | (show 4 < 5; decide) | decide | (simp only [List.size_toArray, nodeL_len]; decide) | simp)) ?_
      intro w87 hH88
      simp only [z0, z1] at hH88
      refine AD ?_
      refine CW.region ?_
      refine V (run_add e47_38 rfl (by omega)) ?_
      refine V (mV (I _) rfl) ?_
      refine RL.nil ?_
      refine ⟨(k + 1, v84, (gs ++ [(kindR 6 (f.names.getD ((lst (ownersG f.rel s)).getD k.toNat 0).toNat tx0) v72 (namesOf f.names (readersG f.rel s ((lst (ownersG f.rel s)).getD k.toNat 0))))]), (Z75 ++ Z)), ?_, fr38.u4.u4.u4.u4.u4.u4, (Hp.conv (hH88.sub (sQ sR)) (by first | rfl | (simp; done) | (simp [nodeL, kidsR, kindR, NodeR.kind, NodeR.place, NodeR.text, NodeR.nv, NodeR.kv]; done))), (congrArg I (by first | rfl | omega)), ?_, ?_, ?_, ?_, ?_⟩
      ·((try dsimp only); omega)
      ·omega
      ·omega
      ·rw [rules_next (f := f.fc) h0 ‹k < _›, List.map_append, hm]; exact congrArg (_ ++ [·]) (rule_nd (f := f.fc) (w := s) (o := ((lst (ownersG f.rel s)).getD k.toNat 0)))
      ·exact (hF.mono (Le.zz fun y hy => List.mem_append_right _ hy)).snoc (NodeV.mono (Le.zz fun y hy => List.mem_append_left _ hy) (kindR_v hv78))
      ·simp only [List.length_append, List.length_singleton]; omega
     ·refine AO.callF rfl gnone rfl hH67 (sP (sQ (sQ sR))) (c_spell_constant_1 K b3 f (readersG f.rel s ((lst (ownersG f.rel s)).getD k.toNat 0)) (sub_r (f := f.fc) hR ‹f.kind = 3› _ _) _ (hK.trans hH67.kw) (hf.mono (hK.trans hH67.kw)) (hH67.blk (i := 4) rfl) (hT.hp hH67)) (run_callC1 call116 (cs := [.pointer (some ⟨b3, 0, none⟩)]) rfl rfl) ?_
      intro v91 w92 Z94 hH93 hp95
      have hH96 : Hp _ w92 (_ :: _ :: _ :: _ :: _ :: (Z94 ++ Z)) := hH93.zin (L := [_, _, _, _, _]) (L' := Z)
      have hv97 := hp95
      refine AT 14 rfl (hH96.sub (sP (sQ (sQ (sP (sP (sA sR))))))) (fun w hS => run_bld (vs := [(0, I 6), (2, S (f.names.getD ((lst (ownersG f.rel s)).getD k.toNat 0).toNat tx0)), (3, v91)]) rfl (built_nodeTN (one_slv hv97).2 6 (f.names.getD ((lst (ownersG f.rel s)).getD k.toNat 0).toNat tx0) (namesOf f.names (readersG f.rel s ((lst (ownersG f.rel s)).getD k.toNat 0))))) ?_
      refine AN.two 1 15 (by kernel_rfl) ?_ ?_
      ·refine AO.read rfl gnone rfl hH96 (sP (sQ (sQ (sP (sP (sA sR)))))) (run_ld underlying94 rfl rfl (hH96.cell (i := 2) rfl rfl)) ?_
       refine A1 15 ?_
       refine AO.new rfl gnone rfl hH96 (sP (sQ (sQ (sP (sP (sA sR)))))) (f := fun b => .slice (some ⟨b, 0, none⟩) 1 1) (run_mkRecs nodeL_len underlying94 rfl rfl rfl (l := [(kindR 6 (f.names.getD ((lst (ownersG f.rel s)).getD k.toNat 0).toNat tx0) v91 (namesOf f.names (readersG f.rel s ((lst (ownersG f.rel s)).getD k.toNat 0))))]) rfl (by decide) (by decide) rfl) ?_
       intro b102 w100 hH101
       refine A1 16 ?_
       refine AO.app rfl gnone rfl hH101 (j := 2) rfl (fun _ => (sQ (sP (sQ (sQ (sP (sP (sA sR)))))))) (Hp.slFlat nodeL_len hH101 (i := 0) (l := [(kindR 6 (f.names.getD ((lst (ownersG f.rel s)).getD k.toNat 0).toNat tx0) v91 (namesOf f.names (readersG f.rel s ((lst (ownersG f.rel s)).getD k.toNat 0))))]) rfl (by simp [maxLen])) rfl rfl underlying94 rfl rfl (size := 5) (bytes := 80) rfl rfl rfl (by decide) (node1_one (kindR_v hv97)) (by simp only [List.length_cons, List.length_nil]; omega) (by simp only [maxLen, List.length_cons, List.length_nil]; omega) ?_
       intro v105 w103 hH104
       simp only [z0, z1] at hH104
       refine AT 17 rfl (hH104.sub (sQ (sP (sQ (sQ (sP (sP (sA sR)))))))) (fun w hS => fA underlying96 4 rfl sizeOf94 e6_38) ?_
       refine A1 18 ?_
       refine AO.set rfl gnone hH104 (j := 3) rfl (sQ (sP (sQ (sQ (sP (sP (sA sR))))))) (run_st rfl rfl (v := v105) rfl (row_cells (hH104.get (i := 2) rfl)).1 (row_cells (hH104.get (i := 2) rfl)).2 (hH104.blk (i := 3) rfl) (by first | (show 4 < 5; decide) | decide | (simp only [List.size_toArray, nodeL_len]; decide) | simp)) ?_
       intro w108 hH109
       simp only [z0, z1] at hH109
       refine AD ?_
       refine CW.region ?_
       refine V (run_add e47_38 rfl (by omega)) ?_
       refine V (mV (I _) rfl) ?_
       refine RL.nil ?_
       refine ⟨(k + 1, v105, (gs ++ [(kindR 6 (f.names.getD ((lst (ownersG f.rel s)).getD k.toNat 0).toNat tx0) v91 (namesOf f.names (readersG f.rel s ((lst (ownersG f.rel s)).getD k.toNat 0))))]), (Z94 ++ Z)), ?_, fr38.u4.u4.u4.u4.u4.u4, (Hp.conv (hH109.sub (sQ sR)) (by first | rfl | (simp; done) | (simp [nodeL, kidsR, kindR, NodeR.kind, NodeR.place, NodeR.text, NodeR.nv, NodeR.kv]; done))), (congrArg I (by first | rfl | omega)), ?_, ?_, ?_, ?_, ?_⟩
       ·((try dsimp only); omega)
       ·omega
       ·omega
       ·rw [rules_next (f := f.fc) h0 ‹k < _›, List.map_append, hm]; exact congrArg (_ ++ [·]) (rule_nd (f := f.fc) (w := s) (o := ((lst (ownersG f.rel s)).getD k.toNat 0)))
       ·exact (hF.mono (Le.zz fun y hy => List.mem_append_right _ hy)).snoc (NodeV.mono (Le.zz fun y hy => List.mem_append_left _ hy) (kindR_v hv97))
       ·simp only [List.length_append, List.length_singleton]; omega
      ·refine AO.new rfl gnone rfl hH96 (sP (sQ (sQ (sP (sP (sA sR)))))) (f := fun b => .slice (some ⟨b, 0, none⟩) 1 1) (run_mkRecs nodeL_len underlying94 rfl rfl rfl (l := [(kindR 6 (f.names.getD ((lst (ownersG f.rel s)).getD k.toNat 0).toNat tx0) v91 (namesOf f.names (readersG f.rel s ((lst (ownersG f.rel s)).getD k.toNat 0))))]) rfl (by decide) (by decide) rfl) ?_
       intro b112 w110 hH111
       refine A1 1 ?_
       refine AO.read rfl gnone rfl hH111 (sQ (sP (sQ (sQ (sP (sP (sA sR))))))) (run_ld underlying94 rfl rfl (hH111.cell (i := 3) rfl rfl)) ?_
       refine A1 16 ?_
       refine AO.app rfl gnone rfl hH111 (j := 2) rfl (fun _ => (sQ (sP (sQ (sQ (sP (sP (sA sR)))))))) (Hp.slFlat nodeL_len hH111 (i := 0) (l := [(kindR 6 (f.names.getD ((lst (ownersG f.rel s)).getD k.toNat 0).toNat tx0) v91 (namesOf f.names (readersG f.rel s ((lst (ownersG f.rel s)).getD k.toNat 0))))]) rfl (by simp [maxLen])) rfl rfl underlying94 rfl rfl (size := 5) (bytes := 80) rfl rfl rfl (by decide) (node1_one (kindR_v hv97)) (by simp only [List.length_cons, List.length_nil]; omega) (by simp only [maxLen, List.length_cons, List.length_nil]; omega) ?_
       intro v117 w115 hH116
       simp only [z0, z1] at hH116
       refine AT 17 rfl (hH116.sub (sQ (sP (sQ (sQ (sP (sP (sA sR)))))))) (fun w hS => fA underlying96 4 rfl sizeOf94 e6_38) ?_
       refine A1 18 ?_
       refine AO.set rfl gnone hH116 (j := 3) rfl (sQ (sP (sQ (sQ (sP (sP (sA sR))))))) (run_st rfl rfl (v := v117) rfl (row_cells (hH116.get (i := 2) rfl)).1 (row_cells (hH116.get (i := 2) rfl)).2 (hH116.blk (i := 3) rfl) (by first | (show 4 < 5; decide) | decide | (simp only [List.size_toArray, nodeL_len]; decide) | simp)) ?_
       intro w120 hH121
       simp only [z0, z1] at hH121
       refine AD ?_
       refine CW.region ?_
       refine V (run_add e47_38 rfl (by omega)) ?_
       refine V (mV (I _) rfl) ?_
       refine RL.nil ?_
       refine ⟨(k + 1, v117, (gs ++ [(kindR 6 (f.names.getD ((lst (ownersG f.rel s)).getD k.toNat 0).toNat tx0) v91 (namesOf f.names (readersG f.rel s ((lst (ownersG f.rel s)).getD k.toNat 0))))]), (Z94 ++ Z)), ?_, fr38.u4.u4.u4.u4.u4.u4, (Hp.conv (hH121.sub (sQ sR)) (by first | rfl | (simp; done) | (simp [nodeL, kidsR, kindR, NodeR.kind, NodeR.place, NodeR.text, NodeR.nv, NodeR.kv]; done))), (congrArg I (by first | rfl | omega)), ?_, ?_, ?_, ?_, ?_⟩
       ·((try dsimp only); omega)
       ·omega
       ·omega
       ·rw [rules_next (f := f.fc) h0 ‹k < _›, List.map_append, hm]; exact congrArg (_ ++ [·]) (rule_nd (f := f.fc) (w := s) (o := ((lst (ownersG f.rel s)).getD k.toNat 0)))
       ·exact (hF.mono (Le.zz fun y hy => List.mem_append_right _ hy)).snoc (NodeV.mono (Le.zz fun y hy => List.mem_append_left _ hy) (kindR_v hv97))
       ·simp only [List.length_append, List.length_singleton]; omega
   ·refine CW.exit (id := 1) rfl ?_
    refine SR ?_
    obtain ⟨Z122, hz123, hv124, -⟩ := (hH38.perm (((pC pR).trans pS).trans (pC pR))).frz (K)
    have hH125 : Hp _ w38 (_ :: _ :: _ :: _ :: (Z122 ++ Z)) := hz123.zin (L := [_, _, _, _]) (L' := Z)
    have hN126 : NodeV (Kz K (Z122 ++ Z)) ((kidsR (kindN f.fc) kv gs)) := kidsR_v (hv124.mono (Le.zz fun x hx => List.mem_append_left _ hx)) (hF.mono (Le.zz fun x hx => List.mem_append_right _ hx))
    refine V (run_ldA (cs := nodeL ((kidsR (kindN f.fc) kv gs))) underlying96 rfl rfl e6_38 (rangeAt_cells (hH125.blk (i := 1) rfl))) ?_
    refine RL.set hH125 (i := 2) rfl (run_stW (c' := (nodeL ((kidsR (kindN f.fc) kv gs))).toArray) rfl e4_38 rfl (nodeL_one hN126) (hH125.blk (i := 2) rfl) rfl) ?_
    intro w127 hH128
    simp only [z0, z1] at hH128
    refine RL.nil ?_
    refine CW.ret ?_
    refine outCg Tryz.results94 e4_38 hH128 (i := 2) rfl underlying96 rfl rfl ⟨(Z122 ++ Z), (hH128.sub (sQ (sQ (sQ (sQ sR))))), (kidsR (kindN f.fc) kv gs), rfl, ?_, hN126⟩
    exact nd_3 ‹_› (hm.trans (rules_all ‹_›))
  ·refine SR ?_
   refine V (run_eql rfl rfl) ?_
   refine V (aV (B _) rfl) ?_
   refine RL.nil ?_
   refine CW.condP rfl (fun h130 => ?_) (fun h130 => ?_)
   ·refine SR ?_
    refine V (fA underlying59 2 rfl sizeOf57 rfl) ?_
    refine V (run_ldBR underlying57 rfl rfl rfl (hH14.blk (i := 3) rfl)) ?_
    refine V (mV (U _) rfl) ?_
    refine RL.callP rfl hH14 (c_hasse_Point _ _  _ (hT.hp hH14)) (run_call2 call78 rfl rfl) ?_
    intro w131 hH132
    refine V (run_move (by conv => lhs; whnf)) ?_
    refine V (run_extract rfl (v := I _) rfl) ?_
    refine V (run_extract rfl (v := B _) rfl) ?_
    refine V (aV (I _) rfl) ?_
    refine V (aV (B _) rfl) ?_
    refine RL.nil ?_
    refine CW.region ?_
    refine V (fA underlying59 1 rfl sizeOf54 rfl) ?_
    refine V (run_ld underlying54 rfl rfl (hH132.cell (i := 3) rfl rfl)) ?_
    refine V (mV (I _) rfl) ?_
    refine V (run_indexAddrS ((hf.mono hK).names.sl.hp hH132) underlying54 sizeOf9 rfl rfl (by first | omega | exact own_at (f := f.fc) hR ‹f.kind = 3› s h0 ‹k < _› | exact pt_in (f := f.fc) hR ‹f.kind = 4› hw | exact lv_in (f := f.fc) (kind_cases hR ‹_› ‹_› ‹_›) hw)) ?_
    refine V (run_ld underlying9 rfl rfl (((hf.mono hK).names.sl.hp hH132).cell _ _ (txL_at (by first | omega | exact own_at (f := f.fc) hR ‹f.kind = 3› s h0 ‹k < _› | exact pt_in (f := f.fc) hR ‹f.kind = 4› hw | exact lv_in (f := f.fc) (kind_cases hR ‹_› ‹_› ‹_›) hw)))) ?_
    refine V (fA underlying96 2 rfl sizeOf9 rfl) ?_
    refine RL.set hH132 (i := 1) rfl (run_st rfl rfl (v := .string _) rfl rfl rfl (hH132.blk (i := 1) rfl) (by first | (show 2 < 5; decide) | decide | (simp only [List.size_toArray, nodeL_len]; decide) | simp)) ?_
    intro w134 hH135
    simp only [z0, z1] at hH135
    refine RL.nil ?_
    refine SR ?_
    have hN136 : NodeV (Kz K []) ((kindR (kindN f.fc) (f.names.getD (pointV f.rel s).1.toNat tx0) (.slice none 0 0) [])) := kindR_v (SlV.nil _ _)
    refine V (run_ldA (cs := nodeL ((kindR (kindN f.fc) (f.names.getD (pointV f.rel s).1.toNat tx0) (.slice none 0 0) []))) underlying96 rfl rfl rfl (rangeAt_cells (hH135.blk (i := 1) rfl))) ?_
    refine RL.set hH135 (i := 2) rfl (run_stW (c' := (nodeL ((kindR (kindN f.fc) (f.names.getD (pointV f.rel s).1.toNat tx0) (.slice none 0 0) []))).toArray) rfl rfl rfl (nodeL_one hN136) (hH135.blk (i := 2) rfl) rfl) ?_
    intro w137 hH138
    simp only [z0, z1] at hH138
    refine RL.nil ?_
    refine CW.ret ?_
    refine outCg Tryz.results94 rfl hH138 (i := 2) rfl underlying96 rfl rfl ⟨[], (hH138.sub (sQ (sQ (sQ (sQ sR))))), (kindR (kindN f.fc) (f.names.getD (pointV f.rel s).1.toNat tx0) (.slice none 0 0) []), rfl, ?_, hN136⟩
    exact nd_4 ‹_›
   ·refine SR ?_
    refine V (fA underlying59 1 rfl sizeOf54 rfl) ?_
    refine V (run_ld underlying54 rfl rfl (hH14.cell (i := 3) rfl rfl)) ?_
    refine V (run_lenSl ((hf.mono hK).names.sl.hp hH14) rfl underlying54 rfl) ?_
    refine V (mV (U _) rfl) ?_
    refine RL.callP rfl hH14 (c_rung_Level _ _  _) (run_call2 call104 rfl rfl) ?_
    intro w139 hH140
    refine V (run_move (by conv => lhs; whnf)) ?_
    refine V (run_extract rfl (v := I _) rfl) ?_
    refine V (run_extract rfl (v := B _) rfl) ?_
    refine V (aV (I _) rfl) ?_
    refine V (aV (B _) rfl) ?_
    refine RL.nil ?_
    refine CW.region ?_
    refine V (fA underlying59 1 rfl sizeOf54 rfl) ?_
    refine V (run_ld underlying54 rfl rfl (hH140.cell (i := 3) rfl rfl)) ?_
    refine V (mV (I _) rfl) ?_
    refine V (run_indexAddrS ((hf.mono hK).names.sl.hp hH140) underlying54 sizeOf9 rfl rfl (by first | omega | exact own_at (f := f.fc) hR ‹f.kind = 3› s h0 ‹k < _› | exact pt_in (f := f.fc) hR ‹f.kind = 4› hw | exact lv_in (f := f.fc) (kind_cases hR ‹_› ‹_› ‹_›) hw)) ?_
    refine V (run_ld underlying9 rfl rfl (((hf.mono hK).names.sl.hp hH140).cell _ _ (txL_at (by first | omega | exact own_at (f := f.fc) hR ‹f.kind = 3› s h0 ‹k < _› | exact pt_in (f := f.fc) hR ‹f.kind = 4› hw | exact lv_in (f := f.fc) (kind_cases hR ‹_› ‹_› ‹_›) hw)))) ?_
    refine V (fA underlying96 2 rfl sizeOf9 rfl) ?_
    refine RL.set hH140 (i := 1) rfl (run_st rfl rfl (v := .string _) rfl rfl rfl (hH140.blk (i := 1) rfl) (by first | (show 2 < 5; decide) | decide | (simp only [List.size_toArray, nodeL_len]; decide) | simp)) ?_
    intro w142 hH143
    simp only [z0, z1] at hH143
    refine RL.nil ?_
    refine SR ?_
    have hN144 : NodeV (Kz K []) ((kindR (kindN f.fc) (f.names.getD (level f.names.length s).1.toNat tx0) (.slice none 0 0) [])) := kindR_v (SlV.nil _ _)
    refine V (run_ldA (cs := nodeL ((kindR (kindN f.fc) (f.names.getD (level f.names.length s).1.toNat tx0) (.slice none 0 0) []))) underlying96 rfl rfl rfl (rangeAt_cells (hH143.blk (i := 1) rfl))) ?_
    refine RL.set hH143 (i := 2) rfl (run_stW (c' := (nodeL ((kindR (kindN f.fc) (f.names.getD (level f.names.length s).1.toNat tx0) (.slice none 0 0) []))).toArray) rfl rfl rfl (nodeL_one hN144) (hH143.blk (i := 2) rfl) rfl) ?_
    intro w145 hH146
    simp only [z0, z1] at hH146
    refine RL.nil ?_
    refine CW.ret ?_
    refine outCg Tryz.results94 rfl hH146 (i := 2) rfl underlying96 rfl rfl ⟨[], (hH146.sub (sQ (sQ (sQ (sQ sR))))), (kindR (kindN f.fc) (f.names.getD (level f.names.length s).1.toNat tx0) (.slice none 0 0) []), rfl, ?_, hN144⟩
    exact nd_1 ‹_› ‹_› ‹_›

end Go.Proofs.YtieckcbckgalhaaGreatDoor.W
