/-
  The walks of the functions that the laws of this seat reach, part 1: each returns what its plain counterpart tells, and turns nothing that was there.
-/
import Derived.Test.YtgmdjomdmfcpnaaDoorProg
import Derived.Test.YtgmdjomdmfcpnaaDoorEnv
import Derived.Test.YtgmdjomdmfcpnaaDoorPlain
import Derived.Test.YtgmdjomdmfcpnaaDoorBase
import Derived.Test.YtgmdjomdmfcpnaaDoorOrd
import Derived.Test.YtgmdjomdmfcpnaaDoorRel
import Derived.Test.YtgmdjomdmfcpnaaDoorClo
import Derived.Test.YtgmdjomdmfcpnaaDoorCov
import Derived.Test.YtgmdjomdmfcpnaaDoorArr
import Derived.Test.YtgmdjomdmfcpnaaDoorHas
import Derived.Test.YtgmdjomdmfcpnaaDoorGrd
import Derived.Test.YtgmdjomdmfcpnaaDoorStr
import Derived.Test.YtgmdjomdmfcpnaaDoorVu
import Derived.Test.YtgmdjomdmfcpnaaDoorShp
import Derived.Test.YtgmdjomdmfcpnaaDoorShl
import Derived.Test.YtgmdjomdmfcpnaaDoorShq
import Derived.Test.YtgmdjomdmfcpnaaDoorShr
import Derived.Test.YtgmdjomdmfcpnaaDoorCut
namespace Go.Proofs.YtgmdjomdmfcpnaaDoor.W
open Go Go.RowKit Go.Proofs.YtgmdjomdmfcpnaaDoor.E Go.Proofs.YtgmdjomdmfcpnaaDoor.M
set_option linter.unusedVariables false
set_option linter.unusedSimpArgs false
set_option maxRecDepth 100000

theorem zero_rel : ∀ w, (zeroValue 34).run Tryd.prog w = .ok (.agg (relC Rl.none)) w := fun w => by
  rw [relC_def]; exact Tryd.zeroValue34 w
theorem built_rel (a : Int) : Tryd.prog.built 34 [(0, I a)] = some (relC ⟨a, fun _ => 0#64⟩) := by
  rw [relC_def]; rfl
theorem relT_fields : Tryd.prog.fieldsOf 34 = #[{ name := "N", type := 3, offset := 0, embedded := false, tag := "", pkgPath := "", byteOffset := 0 }, { name := "Up", type := 32, offset := 1, embedded := false, tag := "", pkgPath := "", byteOffset := 8 }] := by
  unfold Program.fieldsOf; rw [Tryd.underlying34]
theorem relT_fact : RelT Tryd.prog 34 { name := "N", type := 3, offset := 0, embedded := false, tag := "", pkgPath := "", byteOffset := 0 } { name := "Up", type := 32, offset := 1, embedded := false, tag := "", pkgPath := "", byteOffset := 8 } 31 :=
  ⟨by rw [relT_fields]; exact Tryd.underlying34, relT_fields, by decide, by decide, rfl, rfl, Tryd.underlying3, Tryd.isAgg3, Tryd.underlying32, Tryd.isAgg32, Tryd.sizeOf32, Tryd.underlying31, Tryd.sizeOf31, Tryd.isAgg31, by kernel_rfl, by kernel_rfl⟩
theorem elT_fact : ElT Tryd.prog 40 31 := ⟨Tryd.underlying40, Tryd.underlying31, Tryd.sizeOf31, Tryd.isAgg31, by kernel_rfl⟩
theorem zero_el : ∀ w, (zeroValue 40).run Tryd.prog w = .ok (.agg (elC el0)) w := fun w => by
  rw [elC_zero]; exact Tryd.zeroValue40 w
theorem zero_fac : ∀ w, (zeroValue 36).run Tryd.prog w = .ok (.agg (facC fac0)) w := fun w => Tryd.zeroValue36 w
theorem built_rel0 : Tryd.prog.built 34 [] = some (relC Rl.none) := by
  rw [relC_def]; rfl
theorem built_shpT {v : Value} (h : v.cells = #[v]) : Tryd.prog.built 24 [(0, B true), (1, v)] = some #[B true, v] :=
  (show Tryd.prog.built 24 [(0, B true), (1, v)] = Instr.fill (#[(0, 1), (1, 1)][·]?) #[B false, .slice none 0 0] [(0, B true), (1, v)] from rfl).trans (by simp only [Instr.fill, h]; rfl)
theorem built_shp1 {v : Value} (h : v.cells = #[v]) : Tryd.prog.built 24 [(1, v)] = some #[B false, v] :=
  (show Tryd.prog.built 24 [(1, v)] = Instr.fill (#[(0, 1), (1, 1)][·]?) #[B false, .slice none 0 0] [(1, v)] from rfl).trans (by simp only [Instr.fill, h]; rfl)
theorem built_shp0 : Tryd.prog.built 24 [(0, B true)] = some #[B true, .slice none 0 0] := rfl
theorem built_fac (k : Int) (b n : Nat) (l : List Tx) : Tryd.prog.built 36 [(0, I k), (1, .slice (some ⟨b, 0, none⟩) n n)] = some (facC ⟨k, .slice (some ⟨b, 0, none⟩) n n, l, Rl.none⟩) := rfl
theorem built_el2 (a b : BitVec 64) : Tryd.prog.built 40 [(0, U a), (1, U b)] = some (elC (putE (putE el0 0 a) 1 b)) := by
  rw [elC_def]; rfl
theorem built_el1 (a : BitVec 64) : Tryd.prog.built 40 [(0, U a)] = some (elC (putE el0 0 a)) := by
  rw [elC_def]; rfl

theorem c_rung_chain (n : Int) (w : World) : Calls Tryd.prog 82 #[I n] w (Pure (B (chainB n)) w) := by
  refine enter Tryd.func82 rfl Tryd.ntmps82 rfl ?_
  have hH := Hp.start w
  refine CW.seq ?_
  refine CW.region ?_
  refine RL.val rfl (run_assign (v := B false) rfl) ?_
  refine RL.nil ?_
  refine CW.seq ?_
  refine CW.region ?_
  refine RL.val rfl (run_move (v := I _) rfl) ?_
  refine RL.val rfl (run_geq rfl rfl) ?_
  refine RL.val rfl (run_move (v := B _) rfl) ?_
  refine RL.splitP (dj := 5) rfl (fun h2 => ?_) (fun h2 => ?_)
  · refine RL.gT rfl (bT h2) ?_
    refine RL.val rfl (run_move (v := I _) rfl) ?_
    refine RL.gT rfl (bT h2) ?_
    refine RL.val rfl (run_leq rfl rfl) ?_
    refine RL.val rfl (run_pickT (bT h2) (v := B _) rfl) ?_
    refine RL.val rfl (run_assign (v := B _) rfl) ?_
    refine RL.nil ?_
    refine CW.ret ?_
    refine outP1 Tryd.results82 (congrArg B ?_) hH.below
    (simp [chainB]; omega)
  · refine RL.gF rfl rfl (bF h2) rfl ?_
    refine RL.gF rfl rfl (bF h2) rfl ?_
    refine RL.val rfl (run_pickF (bF h2) (v := B false) rfl) ?_
    refine RL.val rfl (run_assign (v := B _) rfl) ?_
    refine RL.nil ?_
    refine CW.ret ?_
    refine outP1 Tryd.results82 (congrArg B ?_) hH.below
    (simp [chainB]; omega)

theorem c_mask_Below (n : Int) (w : World) : Calls Tryd.prog 38 #[I n] w (Pure (U (below n)) w) := by
  refine enter Tryd.func38 rfl Tryd.ntmps38 rfl ?_
  have hH := Hp.start w
  refine CW.seq ?_
  refine CW.region ?_
  refine RL.val rfl (run_assign (v := U 0#64) rfl) ?_
  refine RL.nil ?_
  refine CW.seq ?_
  refine CW.seq ?_
  refine CW.region ?_
  refine RL.val rfl (run_move (v := I _) rfl) ?_
  refine RL.val rfl (run_leq rfl rfl) ?_
  refine RL.nil ?_
  refine CW.condP rfl (fun h2 => ?_) (fun h2 => ?_)
  · refine CW.seq ?_
    refine CW.region ?_
    refine RL.val rfl (run_assign (v := U 0#64) rfl) ?_
    refine RL.nil ?_
    refine CW.ret ?_
    exact outP1 Tryd.results38 (congrArg U (below_nonpos ‹_›).symm) hH.below
  · refine CW.skip ?_
    refine CW.seq ?_
    refine CW.seq ?_
    refine CW.region ?_
    refine RL.val rfl (run_move (v := I _) rfl) ?_
    refine RL.val rfl (run_geq rfl rfl) ?_
    refine RL.nil ?_
    refine CW.condP rfl (fun h4 => ?_) (fun h4 => ?_)
    · refine CW.seq ?_
      refine CW.region ?_
      refine RL.val rfl (run_assign (v := U 18446744073709551615#64) rfl) ?_
      refine RL.nil ?_
      refine CW.ret ?_
      exact outP1 Tryd.results38 (congrArg U (below_all ‹_›).symm) hH.below
    · refine CW.skip ?_
      refine CW.seq ?_
      refine CW.region ?_
      refine RL.val rfl (run_move (v := I _) rfl) ?_
      refine RL.val rfl (run_convIU Tryd.underlying3 Tryd.underlying81 rfl) ?_
      refine RL.val rfl (run_shlU (a := 1#64) rfl rfl) ?_
      refine RL.val rfl (run_subU rfl (b := 1#64) rfl) ?_
      refine RL.val rfl (run_assign (v := U _) rfl) ?_
      refine RL.nil ?_
      refine CW.ret ?_
      exact outP1 Tryd.results38 (congrArg U (below_mid ‹_› ‹_›).symm) hH.below

theorem c_rung_Word (n k : Int) (w : World) : Calls Tryd.prog 62 #[I n, I k] w (Pure (.tuple #[U (wordv n k).1, B (wordv n k).2]) w) := by
  refine enter Tryd.func62 rfl Tryd.ntmps62 rfl ?_
  have hH := Hp.start w
  refine CW.seq ?_
  refine CW.region ?_
  refine RL.val rfl (run_assign (v := U 0#64) rfl) ?_
  refine RL.val rfl (run_assign (v := B false) rfl) ?_
  refine RL.nil ?_
  refine CW.seq ?_
  refine CW.seq ?_
  refine CW.region ?_
  refine RL.val rfl (run_move (v := I _) rfl) ?_
  refine RL.callP rfl hH (c_rung_chain _  _) (run_call1 Tryd.call82 rfl) ?_
  intro w1 hH2
  refine RL.val rfl (run_not rfl) ?_
  refine RL.val rfl (run_move (v := B _) rfl) ?_
  refine RL.split (dj := 9) rfl (fun h5 => ?_) (fun h5 => ?_)
  · refine RL.gF rfl rfl (bR (c := true) h5) rfl ?_
    refine RL.gF rfl rfl (bR (c := true) h5) rfl ?_
    refine RL.val rfl (run_pickT (bR (c := true) h5) (v := B true) rfl) ?_
    refine RL.val rfl (run_move (v := B _) rfl) ?_
    refine RL.gF rfl rfl rfl rfl ?_
    refine RL.gF rfl rfl rfl rfl ?_
    refine RL.gF rfl rfl rfl rfl ?_
    refine RL.val rfl (run_pickT rfl (v := B true) rfl) ?_
    refine RL.nil ?_
    refine CW.condT rfl ?_
    refine CW.seq ?_
    refine CW.region ?_
    refine RL.val rfl (run_assign (v := U 0#64) rfl) ?_
    refine RL.val rfl (run_assign (v := B false) rfl) ?_
    refine RL.nil ?_
    refine CW.ret ?_
    have hn := chain_f ‹(!chainB n) = true›
    refine outP2 Tryd.results62 (congrArg U ?_) (congrArg B ?_) hH2.below <;> rw [wordv_no (by omega)]
  · refine RL.gT rfl (bR (c := false) h5) ?_
    refine RL.val rfl (run_move (v := I _) rfl) ?_
    refine RL.gT rfl (bR (c := false) h5) ?_
    refine RL.val rfl (run_lss rfl rfl) ?_
    refine RL.val rfl (run_pickF (bR (c := false) h5) (v := B _) rfl) ?_
    refine RL.val rfl (run_move (v := B _) rfl) ?_
    refine RL.splitP (dj := 13) rfl (fun h7 => ?_) (fun h7 => ?_)
    · refine RL.gF rfl rfl (bT h7) rfl ?_
      refine RL.gF rfl rfl (bT h7) rfl ?_
      refine RL.gF rfl rfl (bT h7) rfl ?_
      refine RL.val rfl (run_pickT (bT h7) (v := B true) rfl) ?_
      refine RL.nil ?_
      refine CW.condT rfl ?_
      refine CW.seq ?_
      refine CW.region ?_
      refine RL.val rfl (run_assign (v := U 0#64) rfl) ?_
      refine RL.val rfl (run_assign (v := B false) rfl) ?_
      refine RL.nil ?_
      refine CW.ret ?_
      have hn := chain_t ‹(!chainB n) = false›
      refine outP2 Tryd.results62 (congrArg U ?_) (congrArg B ?_) hH2.below <;> rw [wordv_no (by omega)]
    · refine RL.gT rfl (bF h7) ?_
      refine RL.val rfl (run_move (v := I _) rfl) ?_
      refine RL.gT rfl (bF h7) ?_
      refine RL.val rfl (run_move (v := I _) rfl) ?_
      refine RL.gT rfl (bF h7) ?_
      refine RL.val rfl (run_geq rfl rfl) ?_
      refine RL.val rfl (run_pickF (bF h7) (v := B _) rfl) ?_
      refine RL.nil ?_
      refine CW.condP rfl (fun h9 => ?_) (fun h9 => ?_)
      · refine CW.seq ?_
        refine CW.region ?_
        refine RL.val rfl (run_assign (v := U 0#64) rfl) ?_
        refine RL.val rfl (run_assign (v := B false) rfl) ?_
        refine RL.nil ?_
        refine CW.ret ?_
        have hn := chain_t ‹(!chainB n) = false›
        refine outP2 Tryd.results62 (congrArg U ?_) (congrArg B ?_) hH2.below <;> rw [wordv_no (by omega)]
      · refine CW.skip ?_
        refine CW.seq ?_
        refine CW.region ?_
        refine RL.val rfl (run_move (v := I _) rfl) ?_
        refine RL.callP rfl hH2 (c_mask_Below _  _) (run_call1 Tryd.call38 rfl) ?_
        intro w10 hH11
        refine RL.val rfl (run_assign (v := U _) rfl) ?_
        refine RL.val rfl (run_assign (v := B true) rfl) ?_
        refine RL.nil ?_
        refine CW.ret ?_
        have hn := chain_t ‹(!chainB n) = false›
        refine outP2 Tryd.results62 (congrArg U ?_) (congrArg B ?_) hH11.below <;> rw [wordv_yes (by omega)]

theorem c_rung_Level (n : Int) (s : BitVec 64) (w : World) : Calls Tryd.prog 59 #[I n, U s] w (Pure (.tuple #[I (level n s).1, B (level n s).2]) w) := by
  refine enter Tryd.func59 rfl Tryd.ntmps59 rfl ?_
  have hH := Hp.start w
  refine CW.seq ?_
  refine CW.region ?_
  refine RL.val rfl (run_assign (v := I 0) rfl) ?_
  refine RL.val rfl (run_assign (v := B false) rfl) ?_
  refine RL.nil ?_
  refine CW.seq ?_
  refine CW.seq ?_
  refine CW.region ?_
  refine RL.val rfl (run_move (v := I _) rfl) ?_
  refine RL.callP rfl hH (c_rung_chain _  _) (run_call1 Tryd.call82 rfl) ?_
  intro w1 hH2
  refine RL.val rfl (run_not rfl) ?_
  refine RL.nil ?_
  refine CW.cond rfl (fun h5 => ?_) (fun h5 => ?_)
  · refine CW.seq ?_
    refine CW.region ?_
    refine RL.val rfl (run_assign (v := I 0) rfl) ?_
    refine RL.val rfl (run_assign (v := B false) rfl) ?_
    refine RL.nil ?_
    refine CW.ret ?_
    have hn := chain_f ‹(!chainB n) = true›
    refine outP2 Tryd.results59 (congrArg I ?_) (congrArg B ?_) hH2.below <;> rw [level_no s hn]
  · refine CW.skip ?_
    refine CW.seq ?_
    refine CW.seq ?_
    refine CW.region ?_
    refine RL.val rfl (run_move (v := I _) rfl) ?_
    refine RL.val rfl (run_move (v := I 0) rfl) ?_
    refine RL.nil ?_
    refine CW.block ?_
    have hn := chain_t ‹(!chainB n) = false›
    refine CW.loop (G := (Int)) (fun (k : Int) s' w' => (Fr [4, 5, 6, 11, 12, 13, 14, 15, 16, 17, 18, 19] _ s') ∧ (Hp w w' _) ∧ (s' 11 = I k) ∧ (0 ≤ k) ∧ (k ≤ n) ∧ (∀ j : Int, 0 ≤ j → j < k → s ≠ below j)) (fun (k : Int) => (n - k).toNat) (0) ⟨Fr.refl _ _, hH2, rfl, (by omega), (by omega), fun j a b => absurd b (by omega)⟩ ?_
    rintro k sg6 w6 ⟨fr6, hH6, e11_6, h0, hk, hf⟩
    have e1_6 : sg6 1 = U _ := (fr6 1 rfl).trans rfl
    have e10_6 : sg6 10 = I _ := (fr6 10 rfl).trans rfl
    refine CW.seq ?_
    refine CW.region ?_
    refine RL.val rfl (run_lss e11_6 e10_6) ?_
    refine RL.nil ?_
    refine CW.seq ?_
    refine CW.condP rfl (fun h8 => ?_) (fun h8 => ?_)
    · refine CW.skip ?_
      refine CW.seq ?_
      refine CW.block ?_
      refine CW.seq ?_
      refine CW.region ?_
      refine RL.val rfl (run_move e11_6) ?_
      refine RL.val rfl (run_assign (v := I _) rfl) ?_
      refine RL.nil ?_
      refine CW.seq ?_
      refine CW.region ?_
      refine RL.val rfl (run_move e1_6) ?_
      refine RL.val rfl (run_move (v := I _) rfl) ?_
      refine RL.callP rfl hH6 (c_mask_Below _  _) (run_call1 Tryd.call38 rfl) ?_
      intro w9 hH10
      refine RL.val rfl (run_eqlU rfl rfl) ?_
      refine RL.nil ?_
      refine CW.condP rfl (fun h12 => ?_) (fun h12 => ?_)
      · refine CW.seq ?_
        refine CW.region ?_
        refine RL.val rfl (run_move (v := I _) rfl) ?_
        refine RL.val rfl (run_assign (v := I _) rfl) ?_
        refine RL.val rfl (run_assign (v := B true) rfl) ?_
        refine RL.nil ?_
        refine CW.ret ?_
        refine outP2 Tryd.results59 (congrArg I ?_) (congrArg B ?_) hH10.below <;> rw [level_at hn h0 (by omega) ‹_› hf]
      · refine CW.skip ?_
        refine CW.region ?_
        refine RL.val rfl (run_add e11_6 rfl (by omega)) ?_
        refine RL.val rfl (run_move (v := I _) rfl) ?_
        refine RL.nil ?_
        refine ⟨k + 1, ?_, ((((((((fr6.u rfl).u rfl).u rfl).u rfl).u rfl).u rfl).u rfl).u rfl).u rfl, hH10, (congrArg I (by first | rfl | omega)), ?_, ?_, ?_⟩
        · ((try dsimp only); omega)
        · omega
        · omega
        · exact fun j a b => if e : j = k then e ▸ ‹¬ s = below k› else hf j a (by omega)
    · refine CW.exit (id := 0) rfl ?_
      refine CW.seq ?_
      refine CW.region ?_
      refine RL.val rfl (run_assign (v := I 0) rfl) ?_
      refine RL.val rfl (run_assign (v := B false) rfl) ?_
      refine RL.nil ?_
      refine CW.ret ?_
      refine outP2 Tryd.results59 (congrArg I ?_) (congrArg B ?_) hH6.below <;> rw [level_none hn (fun j a b => hf j a (by omega))]

theorem c_mask_in (i : Int) (w : World) : Calls Tryd.prog 93 #[I i] w (Pure (B (inB i)) w) := by
  refine enter Tryd.func93 rfl Tryd.ntmps93 rfl ?_
  have hH := Hp.start w
  refine CW.seq ?_
  refine CW.region ?_
  refine RL.val rfl (run_assign (v := B false) rfl) ?_
  refine RL.nil ?_
  refine CW.seq ?_
  refine CW.region ?_
  refine RL.val rfl (run_move (v := I _) rfl) ?_
  refine RL.val rfl (run_geq rfl rfl) ?_
  refine RL.val rfl (run_move (v := B _) rfl) ?_
  refine RL.splitP (dj := 5) rfl (fun h2 => ?_) (fun h2 => ?_)
  · refine RL.gT rfl (bT h2) ?_
    refine RL.val rfl (run_move (v := I _) rfl) ?_
    refine RL.gT rfl (bT h2) ?_
    refine RL.val rfl (run_lss rfl rfl) ?_
    refine RL.val rfl (run_pickT (bT h2) (v := B _) rfl) ?_
    refine RL.val rfl (run_assign (v := B _) rfl) ?_
    refine RL.nil ?_
    refine CW.ret ?_
    refine outP1 Tryd.results93 (congrArg B ?_) hH.below
    (simp [inB]; try omega)
  · refine RL.gF rfl rfl (bF h2) rfl ?_
    refine RL.gF rfl rfl (bF h2) rfl ?_
    refine RL.val rfl (run_pickF (bF h2) (v := B false) rfl) ?_
    refine RL.val rfl (run_assign (v := B _) rfl) ?_
    refine RL.nil ?_
    refine CW.ret ?_
    refine outP1 Tryd.results93 (congrArg B ?_) hH.below
    (simp [inB]; try omega)

theorem c_mask_Has (s : BitVec 64) (i : Int) (w : World) : Calls Tryd.prog 91 #[U s, I i] w (Pure (B (hasB s i)) w) := by
  refine enter Tryd.func91 rfl Tryd.ntmps91 rfl ?_
  have hH := Hp.start w
  refine CW.seq ?_
  refine CW.region ?_
  refine RL.val rfl (run_assign (v := B false) rfl) ?_
  refine RL.nil ?_
  refine CW.seq ?_
  refine CW.region ?_
  refine RL.val rfl (run_move (v := I _) rfl) ?_
  refine RL.callP rfl hH (c_mask_in _  _) (run_call1 Tryd.call93 rfl) ?_
  intro w1 hH2
  refine RL.val rfl (run_move (v := B _) rfl) ?_
  refine RL.split (dj := 7) rfl (fun h4 => ?_) (fun h4 => ?_)
  · refine RL.gT rfl (bR (c := true) h4) ?_
    refine RL.val rfl (run_move (v := U _) rfl) ?_
    refine RL.gT rfl (bR (c := true) h4) ?_
    refine RL.val rfl (run_move (v := I _) rfl) ?_
    refine RL.gT rfl (bR (c := true) h4) ?_
    refine RL.val rfl (run_convIU Tryd.underlying3 Tryd.underlying81 rfl) ?_
    refine RL.gT rfl (bR (c := true) h4) ?_
    refine RL.val rfl (run_shrU rfl rfl) ?_
    refine RL.gT rfl (bR (c := true) h4) ?_
    refine RL.val rfl (run_andU rfl (b := 1#64) rfl) ?_
    refine RL.gT rfl (bR (c := true) h4) ?_
    refine RL.val rfl (run_eqlU rfl (b := 1#64) rfl) ?_
    refine RL.val rfl (run_pickT (bR (c := true) h4) (v := B _) rfl) ?_
    refine RL.val rfl (run_assign (v := B _) rfl) ?_
    refine RL.nil ?_
    refine CW.ret ?_
    refine outP1 Tryd.results91 (congrArg B ?_) hH2.below
    exact has_bit s ‹inB i = true›
  · refine RL.gF rfl rfl (bR (c := false) h4) rfl ?_
    refine RL.gF rfl rfl (bR (c := false) h4) rfl ?_
    refine RL.gF rfl rfl (bR (c := false) h4) rfl ?_
    refine RL.gF rfl rfl (bR (c := false) h4) rfl ?_
    refine RL.gF rfl rfl (bR (c := false) h4) rfl ?_
    refine RL.gF rfl rfl (bR (c := false) h4) rfl ?_
    refine RL.val rfl (run_pickF (bR (c := false) h4) (v := B false) rfl) ?_
    refine RL.val rfl (run_assign (v := B _) rfl) ?_
    refine RL.nil ?_
    refine CW.ret ?_
    refine outP1 Tryd.results91 (congrArg B ?_) hH2.below
    exact (has_no s ‹inB i = false›).symm

theorem c_mask_With (s : BitVec 64) (i : Int) (w : World) : Calls Tryd.prog 90 #[U s, I i] w (Pure (U (withB s i)) w) := by
  refine enter Tryd.func90 rfl Tryd.ntmps90 rfl ?_
  have hH := Hp.start w
  refine CW.seq ?_
  refine CW.region ?_
  refine RL.val rfl (run_assign (v := U 0#64) rfl) ?_
  refine RL.nil ?_
  refine CW.seq ?_
  refine CW.seq ?_
  refine CW.region ?_
  refine RL.val rfl (run_move (v := I _) rfl) ?_
  refine RL.callP rfl hH (c_mask_in _  _) (run_call1 Tryd.call93 rfl) ?_
  intro w1 hH2
  refine RL.val rfl (run_not rfl) ?_
  refine RL.nil ?_
  refine CW.cond rfl (fun h5 => ?_) (fun h5 => ?_)
  · refine CW.seq ?_
    refine CW.region ?_
    refine RL.val rfl (run_move (v := U _) rfl) ?_
    refine RL.val rfl (run_assign (v := U _) rfl) ?_
    refine RL.nil ?_
    refine CW.ret ?_
    refine outP1 Tryd.results90 (congrArg U ?_) hH2.below
    simp_all [withB]
  · refine CW.skip ?_
    refine CW.seq ?_
    refine CW.region ?_
    refine RL.val rfl (run_move (v := U _) rfl) ?_
    refine RL.val rfl (run_move (v := I _) rfl) ?_
    refine RL.val rfl (run_convIU Tryd.underlying3 Tryd.underlying81 rfl) ?_
    refine RL.val rfl (run_shlU (a := 1#64) rfl rfl) ?_
    refine RL.val rfl (run_orU rfl rfl) ?_
    refine RL.val rfl (run_assign (v := U _) rfl) ?_
    refine RL.nil ?_
    refine CW.ret ?_
    refine outP1 Tryd.results90 (congrArg U ?_) hH2.below
    simp_all [withB]

theorem c_mask_Without (s : BitVec 64) (i : Int) (w : World) : Calls Tryd.prog 88 #[U s, I i] w (Pure (U (lessB s i)) w) := by
  refine enter Tryd.func88 rfl Tryd.ntmps88 rfl ?_
  have hH := Hp.start w
  refine CW.seq ?_
  refine CW.region ?_
  refine RL.val rfl (run_assign (v := U 0#64) rfl) ?_
  refine RL.nil ?_
  refine CW.seq ?_
  refine CW.seq ?_
  refine CW.region ?_
  refine RL.val rfl (run_move (v := I _) rfl) ?_
  refine RL.callP rfl hH (c_mask_in _  _) (run_call1 Tryd.call93 rfl) ?_
  intro w1 hH2
  refine RL.val rfl (run_not rfl) ?_
  refine RL.nil ?_
  refine CW.cond rfl (fun h5 => ?_) (fun h5 => ?_)
  · refine CW.seq ?_
    refine CW.region ?_
    refine RL.val rfl (run_move (v := U _) rfl) ?_
    refine RL.val rfl (run_assign (v := U _) rfl) ?_
    refine RL.nil ?_
    refine CW.ret ?_
    refine outP1 Tryd.results88 (congrArg U ?_) hH2.below
    simp_all [lessB]
  · refine CW.skip ?_
    refine CW.seq ?_
    refine CW.region ?_
    refine RL.val rfl (run_move (v := U _) rfl) ?_
    refine RL.val rfl (run_move (v := I _) rfl) ?_
    refine RL.val rfl (run_convIU Tryd.underlying3 Tryd.underlying81 rfl) ?_
    refine RL.val rfl (run_shlU (a := 1#64) rfl rfl) ?_
    refine RL.val rfl (run_andNotU rfl rfl) ?_
    refine RL.val rfl (run_assign (v := U _) rfl) ?_
    refine RL.nil ?_
    refine CW.ret ?_
    refine outP1 Tryd.results88 (congrArg U ?_) hH2.below
    simp_all [lessB]

theorem c_mask_Sub (a b : BitVec 64) (w : World) : Calls Tryd.prog 29 #[U a, U b] w (Pure (B (subB a b)) w) := by
  refine enter Tryd.func29 rfl Tryd.ntmps29 rfl ?_
  have hH := Hp.start w
  refine CW.seq ?_
  refine CW.region ?_
  refine RL.val rfl (run_assign (v := B false) rfl) ?_
  refine RL.nil ?_
  refine CW.seq ?_
  refine CW.region ?_
  refine RL.val rfl (run_move (v := U _) rfl) ?_
  refine RL.val rfl (run_move (v := U _) rfl) ?_
  refine RL.val rfl (run_andNotU rfl rfl) ?_
  refine RL.val rfl (run_eqlU rfl (b := 0#64) rfl) ?_
  refine RL.val rfl (run_assign (v := B _) rfl) ?_
  refine RL.nil ?_
  refine CW.ret ?_
  refine outP1 Tryd.results29 (congrArg B ?_) hH.below
  rfl

theorem c_mask_Of (v : Value) (l : List Int) (w : World) (hs : Sl w v 1 l.length (l.map I)) : Calls Tryd.prog 78 #[v] w (Pure (U (ofl l)) w) := by
  have hm := hs.small
  unfold maxLen at hm
  refine enter Tryd.func78 rfl Tryd.ntmps78 rfl ?_
  have hH := Hp.start w
  refine CW.seq ?_
  refine CW.region ?_
  refine RL.val rfl (run_assign (v := U 0#64) rfl) ?_
  refine RL.nil ?_
  refine CW.seq ?_
  refine CW.region ?_
  refine RL.val rfl (run_assign (v := U 0#64) rfl) ?_
  refine RL.nil ?_
  refine CW.seq ?_
  refine CW.seq ?_
  refine CW.region ?_
  refine RL.val rfl (run_move (by conv => lhs; whnf)) ?_
  refine RL.val rfl (run_lenSl (hs.hp hH) rfl Tryd.underlying74 rfl) ?_
  refine RL.val rfl (run_move (v := I 0) rfl) ?_
  refine RL.nil ?_
  refine CW.block ?_
  refine CW.loop (G := (Int)) (fun (k : Int) s' w' => (Fr [3, 5, 8, 9, 10, 11, 12, 13, 14, 15] _ s') ∧ (Hp w w' _) ∧ (s' 3 = U (ofl (l.take k.toNat))) ∧ (s' 8 = I k) ∧ (0 ≤ k) ∧ (k ≤ l.length)) (fun (k : Int) => (l.length - k).toNat) (0) ⟨Fr.refl _ _, hH, (congrArg U (by simp [ofl_nil])), rfl, (by omega), (by omega)⟩ ?_
  rintro k sg1 w1 ⟨fr1, hH1, e3_1, e8_1, h0, hk⟩
  have e2_1 : sg1 2 = U _ := (fr1 2 rfl).trans rfl
  have e6_1 := (fr1 6 rfl).trans (by conv => lhs; whnf)
  have e7_1 : sg1 7 = I _ := (fr1 7 rfl).trans rfl
  refine CW.seq ?_
  refine CW.region ?_
  refine RL.val rfl (run_lss e8_1 e7_1) ?_
  refine RL.nil ?_
  refine CW.seq ?_
  refine CW.condP rfl (fun h3 => ?_) (fun h3 => ?_)
  · refine CW.skip ?_
    refine CW.seq ?_
    refine CW.block ?_
    refine CW.seq ?_
    refine CW.region ?_
    refine RL.val rfl (run_indexAddrS (hs.hp hH1) Tryd.underlying74 Tryd.sizeOf3 e6_1 e8_1 (by omega)) ?_
    refine RL.val rfl (run_ld Tryd.underlying3 rfl rfl ((hs.hp hH1).cell _ _ (map_at (by omega)))) ?_
    refine RL.val rfl (run_assign (v := I _) rfl) ?_
    refine RL.nil ?_
    refine CW.region ?_
    refine RL.val rfl (run_move e3_1) ?_
    refine RL.val rfl (run_move (v := I _) rfl) ?_
    refine RL.callP rfl hH1 (c_mask_With _ _  _) (run_call2 Tryd.call90 rfl rfl) ?_
    intro w4 hH5
    refine RL.val rfl (run_assign (v := U _) rfl) ?_
    refine RL.nil ?_
    refine CW.region ?_
    refine RL.val rfl (run_add e8_1 rfl (by omega)) ?_
    refine RL.val rfl (run_move (v := I _) rfl) ?_
    refine RL.nil ?_
    refine ⟨k + 1, ?_, (((((((((fr1.u rfl).u rfl).u rfl).u rfl).u rfl).u rfl).u rfl).u rfl).u rfl).u rfl, hH5, (congrArg U (by rw [withB_ofl, ← take_next h0 ‹_›])), (congrArg I (by first | rfl | omega)), ?_, ?_⟩
    · ((try dsimp only); omega)
    · omega
    · omega
  · refine CW.exit (id := 0) rfl ?_
    refine CW.seq ?_
    refine CW.region ?_
    refine RL.val rfl (run_move e3_1) ?_
    refine RL.val rfl (run_assign (v := U _) rfl) ?_
    refine RL.nil ?_
    refine CW.ret ?_
    refine outP1 Tryd.results78 (congrArg U ?_) hH1.below
    rw [take_all ‹_›]

theorem c_clearanceref01_Of (v : Value) (l : List Int) (w : World) (hs : Sl w v 1 l.length (l.map I)) : Calls Tryd.prog 49 #[v] w (Pure (U (ofl l)) w) := by
  have hm := hs.small
  unfold maxLen at hm
  refine enter Tryd.func49 rfl Tryd.ntmps49 rfl ?_
  have hH := Hp.start w
  refine CW.seq ?_
  refine CW.region ?_
  refine RL.val rfl (run_assign (v := U 0#64) rfl) ?_
  refine RL.nil ?_
  refine CW.seq ?_
  refine CW.region ?_
  refine RL.val rfl (run_assign (v := U 0#64) rfl) ?_
  refine RL.val rfl (run_assign (v := U 1#64) rfl) ?_
  refine RL.nil ?_
  refine CW.seq ?_
  refine CW.seq ?_
  refine CW.region ?_
  refine RL.val rfl (run_assign (v := I 0) rfl) ?_
  refine RL.nil ?_
  refine CW.block ?_
  refine CW.loop (G := (Int)) (fun (i : Int) s' w' => (Fr [3, 4, 5, 6, 7, 8, 9, 10, 11, 12, 13, 14, 15, 16, 17, 18, 19, 20, 21, 22, 23, 24, 25, 26, 27] _ s') ∧ (Hp w w' _) ∧ (s' 3 = U (oflTo l i.toNat)) ∧ (s' 4 = U (1#64 <<< i.toNat)) ∧ (s' 5 = I i) ∧ (0 ≤ i) ∧ (i ≤ 64)) (fun (i : Int) => (64 - i).toNat) (0) ⟨Fr.refl _ _, hH, (congrArg U (by rfl)), (congrArg U (by rfl)), rfl, (by omega), (by omega)⟩ ?_
  rintro i sg1 w1 ⟨fr1, hH1, e3_1, e4_1, e5_1, i0, i1⟩
  have e0_1 := (fr1 0 rfl).trans (by conv => lhs; whnf)
  have e2_1 : sg1 2 = U _ := (fr1 2 rfl).trans rfl
  refine CW.seq ?_
  refine CW.seq ?_
  refine CW.region ?_
  refine RL.val rfl (run_move e5_1) ?_
  refine RL.val rfl (run_lss rfl rfl) ?_
  refine RL.nil ?_
  refine CW.condP rfl (fun h3 => ?_) (fun h3 => ?_)
  · refine CW.skip ?_
    refine CW.seq ?_
    refine CW.block ?_
    refine CW.seq ?_
    refine CW.seq ?_
    refine CW.region ?_
    refine RL.val rfl (run_assign (v := I 0) rfl) ?_
    refine RL.nil ?_
    refine CW.block ?_
    refine CW.loop (G := (Int)) (fun (k : Int) s' w' => (Fr [3, 6, 11, 12, 13, 14, 15, 16, 17, 18, 19, 20, 21, 22, 23, 24, 25] _ s') ∧ (Hp w w' _) ∧ (s' 3 = U (oflTo l i.toNat)) ∧ (s' 6 = I k) ∧ (0 ≤ k) ∧ (k ≤ l.length) ∧ (∀ j : Int, 0 ≤ j → j < k → l.getD j.toNat 0 ≠ i)) (fun (k : Int) => (l.length - k).toNat) (0) ⟨Fr.refl _ _, hH1, e3_1, rfl, (by omega), (by omega), fun j a b => absurd b (by omega)⟩ ?_
    rintro k sg4 w4 ⟨fr4, hH4, e3_4, e6_4, k0, k1, hf⟩
    have e0_4 := (fr4 0 rfl).trans e0_1
    have e2_4 := (fr4 2 rfl).trans e2_1
    have e4_4 := (fr4 4 rfl).trans e4_1
    have e5_4 := (fr4 5 rfl).trans e5_1
    have e7_4 : sg4 7 = I _ := (fr4 7 rfl).trans rfl
    have e8_4 : sg4 8 = B _ := (fr4 8 rfl).trans rfl
    refine CW.seq ?_
    refine CW.seq ?_
    refine CW.region ?_
    refine RL.val rfl (run_move e6_4) ?_
    refine RL.val rfl (run_move e0_4) ?_
    refine RL.val rfl (run_lenSl (hs.hp hH4) rfl Tryd.underlying74 rfl) ?_
    refine RL.val rfl (run_lss rfl rfl) ?_
    refine RL.nil ?_
    refine CW.condP rfl (fun h6 => ?_) (fun h6 => ?_)
    · refine CW.skip ?_
      refine CW.seq ?_
      refine CW.block ?_
      refine CW.seq ?_
      refine CW.region ?_
      refine RL.val rfl (run_move e0_4) ?_
      refine RL.val rfl (run_move e6_4) ?_
      refine RL.val rfl (run_indexAddrS (hs.hp hH4) Tryd.underlying74 Tryd.sizeOf3 rfl rfl (by omega)) ?_
      refine RL.val rfl (run_ld Tryd.underlying3 rfl rfl ((hs.hp hH4).cell _ _ (map_at (by omega)))) ?_
      refine RL.val rfl (run_move e5_4) ?_
      refine RL.val rfl (run_eql rfl rfl) ?_
      refine RL.nil ?_
      refine CW.condP rfl (fun h8 => ?_) (fun h8 => ?_)
      · refine CW.seq ?_
        refine CW.region ?_
        refine RL.val rfl (run_move e3_4) ?_
        refine RL.val rfl (run_move e4_4) ?_
        refine RL.val rfl (run_addU rfl rfl) ?_
        refine RL.val rfl (run_assign (v := U _) rfl) ?_
        refine RL.nil ?_
        refine CW.exit (id := 2) rfl ?_
        refine CW.region ?_
        refine RL.val rfl (run_move e4_4) ?_
        refine RL.val rfl (run_mulU rfl (b := 2#64) rfl) ?_
        refine RL.val rfl (run_assign (v := U _) rfl) ?_
        refine RL.nil ?_
        refine CW.region ?_
        refine RL.val rfl (run_move e5_4) ?_
        refine RL.val rfl (run_add rfl rfl (by omega)) ?_
        refine RL.val rfl (run_assign (v := I _) rfl) ?_
        refine RL.nil ?_
        refine ⟨i + 1, ?_, ((((((((((((((((((((((((fr1.u rfl).u rfl).u rfl).t fr4 rfl)).u rfl).u rfl).u rfl).u rfl).u rfl).u rfl).u rfl).u rfl).u rfl).u rfl).u rfl).u rfl).u rfl).u rfl).u rfl).u rfl).u rfl).u rfl).u rfl).u rfl, hH4, (congrArg U (oflTo_yesI i0 (by omega) k0 (by omega) ‹_›)), (congrArg U (by rw [shl_two, show (i + 1).toNat = i.toNat + 1 by omega])), (congrArg I (by first | rfl | omega)), ?_, ?_⟩
        · ((try dsimp only); omega)
        · omega
        · omega
      · refine CW.skip ?_
        refine CW.region ?_
        refine RL.val rfl (run_move e6_4) ?_
        refine RL.val rfl (run_add rfl rfl (by omega)) ?_
        refine RL.val rfl (run_assign (v := I _) rfl) ?_
        refine RL.nil ?_
        refine ⟨k + 1, ?_, ((((((((((((fr4.u rfl).u rfl).u rfl).u rfl).u rfl).u rfl).u rfl).u rfl).u rfl).u rfl).u rfl).u rfl).u rfl, hH4, e3_4, (congrArg I (by first | rfl | omega)), ?_, ?_, ?_⟩
        · ((try dsimp only); omega)
        · omega
        · omega
        · exact fun j a b => if e : j = k then e ▸ ‹¬ l.getD k.toNat 0 = i› else hf j a (by omega)
    · refine CW.exit (id := 2) rfl ?_
      refine CW.region ?_
      refine RL.val rfl (run_move e4_4) ?_
      refine RL.val rfl (run_mulU rfl (b := 2#64) rfl) ?_
      refine RL.val rfl (run_assign (v := U _) rfl) ?_
      refine RL.nil ?_
      refine CW.region ?_
      refine RL.val rfl (run_move e5_4) ?_
      refine RL.val rfl (run_add rfl rfl (by omega)) ?_
      refine RL.val rfl (run_assign (v := I _) rfl) ?_
      refine RL.nil ?_
      refine ⟨i + 1, ?_, ((((((((((((((fr1.u rfl).u rfl).u rfl).t fr4 rfl)).u rfl).u rfl).u rfl).u rfl).u rfl).u rfl).u rfl).u rfl).u rfl).u rfl, hH4, (Eq.trans e3_4 (congrArg U (oflTo_noI i0 (fun j a b => hf j a (by omega))))), (congrArg U (by rw [shl_two, show (i + 1).toNat = i.toNat + 1 by omega])), (congrArg I (by first | rfl | omega)), ?_, ?_⟩
      · ((try dsimp only); omega)
      · omega
      · omega
  · refine CW.exit (id := 0) rfl ?_
    refine CW.seq ?_
    refine CW.region ?_
    refine RL.val rfl (run_move e3_1) ?_
    refine RL.val rfl (run_assign (v := U _) rfl) ?_
    refine RL.nil ?_
    refine CW.ret ?_
    refine outP1 Tryd.results49 (congrArg U ?_) hH1.below
    (rw [show i.toNat = 64 by omega]; rfl)

theorem c_rung_Right (n : Int) (s : BitVec 64) (w : World) : Calls Tryd.prog 37 #[I n, U s] w (Pure (B (level n s).2) w) := by
  refine enter Tryd.func37 rfl Tryd.ntmps37 rfl ?_
  have hH := Hp.start w
  refine CW.seq ?_
  refine CW.region ?_
  refine RL.val rfl (run_assign (v := B false) rfl) ?_
  refine RL.nil ?_
  refine CW.seq ?_
  refine CW.region ?_
  refine RL.val rfl (run_move (v := I _) rfl) ?_
  refine RL.val rfl (run_move (v := U _) rfl) ?_
  refine RL.callP rfl hH (c_rung_Level _ _  _) (run_call2 Tryd.call59 rfl rfl) ?_
  intro w1 hH2
  refine RL.val rfl (run_move (by conv => lhs; whnf)) ?_
  refine RL.val rfl (run_extract rfl (v := I _) rfl) ?_
  refine RL.val rfl (run_extract rfl (v := B _) rfl) ?_
  refine RL.val rfl (run_assign (v := I _) rfl) ?_
  refine RL.val rfl (run_assign (v := B _) rfl) ?_
  refine RL.nil ?_
  refine CW.seq ?_
  refine CW.region ?_
  refine RL.val rfl (run_move (v := B _) rfl) ?_
  refine RL.val rfl (run_assign (v := B _) rfl) ?_
  refine RL.nil ?_
  refine CW.ret ?_
  refine outP1 Tryd.results37 (congrArg B ?_) hH2.below
  rfl

theorem c_rung_Top (n : Int) (w : World) : Calls Tryd.prog 41 #[I n] w (Pure (U (topv n)) w) := by
  refine enter Tryd.func41 rfl Tryd.ntmps41 rfl ?_
  have hH := Hp.start w
  refine CW.seq ?_
  refine CW.region ?_
  refine RL.val rfl (run_assign (v := U 0#64) rfl) ?_
  refine RL.nil ?_
  refine CW.seq ?_
  refine CW.region ?_
  refine RL.val rfl (run_move (v := I _) rfl) ?_
  refine RL.val rfl (run_move (v := I _) rfl) ?_
  refine RL.val rfl (run_subW rfl rfl) ?_
  refine RL.callP rfl hH (c_rung_Word _ _  _) (run_call2 Tryd.call62 rfl rfl) ?_
  intro w1 hH2
  refine RL.val rfl (run_move (by conv => lhs; whnf)) ?_
  refine RL.val rfl (run_extract rfl (v := U _) rfl) ?_
  refine RL.val rfl (run_extract rfl (v := B _) rfl) ?_
  refine RL.val rfl (run_assign (v := U _) rfl) ?_
  refine RL.val rfl (run_assign (v := B _) rfl) ?_
  refine RL.nil ?_
  refine CW.seq ?_
  refine CW.region ?_
  refine RL.val rfl (run_move (v := U _) rfl) ?_
  refine RL.val rfl (run_assign (v := U _) rfl) ?_
  refine RL.nil ?_
  refine CW.ret ?_
  refine outP1 Tryd.results41 (congrArg U ?_) hH2.below
  by_cases hn : 1 ≤ n ∧ n ≤ 64
  · rw [topv, if_pos hn, wrap_id (by omega), wordv_yes (by omega)]
  · rw [topv, if_neg hn, wordv_no (by omega)]

theorem c_bits_TrailingZeros64 (s : BitVec 64) (w : World) (hT : Tab w) : Calls Tryd.prog 92 #[U s] w (Pure (I (tz s)) w) := by
  refine enter Tryd.func92 rfl Tryd.ntmps92 rfl ?_
  have hH := Hp.start w
  refine CW.seq ?_
  refine CW.region ?_
  refine RL.val rfl (run_assign (v := I 0) rfl) ?_
  refine RL.nil ?_
  refine CW.seq ?_
  refine CW.seq ?_
  refine CW.region ?_
  refine RL.val rfl (run_move (v := U _) rfl) ?_
  refine RL.val rfl (run_eqlU rfl (b := 0#64) rfl) ?_
  refine RL.nil ?_
  refine CW.condP rfl (fun h2 => ?_) (fun h2 => ?_)
  · refine CW.seq ?_
    refine CW.region ?_
    refine RL.val rfl (run_assign (v := I 64) rfl) ?_
    refine RL.nil ?_
    refine CW.ret ?_
    refine outP1 Tryd.results92 (congrArg I ?_) hH.below
    rw [‹s = 0#64›]; rfl
  · refine CW.skip ?_
    refine CW.seq ?_
    refine CW.region ?_
    refine RL.val rfl (run_move (v := U _) rfl) ?_
    refine RL.val rfl (run_move (v := U _) rfl) ?_
    refine RL.val rfl (run_negU rfl) ?_
    refine RL.val rfl (run_andU rfl rfl) ?_
    refine RL.val rfl (run_mulU rfl (b := 285870213051353865#64) rfl) ?_
    refine RL.val rfl (run_shrU rfl (b := 58#64) rfl) ?_
    refine RL.val rfl (run_indexAddrA Tryd.underlying101 Tryd.sizeOf5 rfl rfl (by exact tz_idx _)) ?_
    refine RL.val rfl (run_ld Tryd.underlying5 rfl rfl (hT.at _)) ?_
    refine RL.val rfl (run_convUI Tryd.underlying5 Tryd.underlying3 rfl (conv_bd (tztab_bd _))) ?_
    refine RL.val rfl (run_assign (v := I _) rfl) ?_
    refine RL.nil ?_
    refine CW.ret ?_
    refine outP1 Tryd.results92 (congrArg I ?_) hH.below
    exact tz_ne ‹_›

theorem c_mask_Least (s : BitVec 64) (w : World) (hT : Tab w) : Calls Tryd.prog 85 #[U s] w (Pure (.tuple #[I (leastv s).1, B (leastv s).2]) w) := by
  refine enter Tryd.func85 rfl Tryd.ntmps85 rfl ?_
  have hH := Hp.start w
  refine CW.seq ?_
  refine CW.region ?_
  refine RL.val rfl (run_assign (v := I 0) rfl) ?_
  refine RL.val rfl (run_assign (v := B false) rfl) ?_
  refine RL.nil ?_
  refine CW.seq ?_
  refine CW.seq ?_
  refine CW.region ?_
  refine RL.val rfl (run_move (v := U _) rfl) ?_
  refine RL.val rfl (run_eqlU rfl (b := 0#64) rfl) ?_
  refine RL.nil ?_
  refine CW.condP rfl (fun h2 => ?_) (fun h2 => ?_)
  · refine CW.seq ?_
    refine CW.region ?_
    refine RL.val rfl (run_assign (v := I 0) rfl) ?_
    refine RL.val rfl (run_assign (v := B false) rfl) ?_
    refine RL.nil ?_
    refine CW.ret ?_
    refine outP2 Tryd.results85 (congrArg I ?_) (congrArg B ?_) hH.below <;> rw [leastv, if_pos ‹_›]
  · refine CW.skip ?_
    refine CW.seq ?_
    refine CW.region ?_
    refine RL.val rfl (run_move (v := U _) rfl) ?_
    refine RL.callP rfl hH (c_bits_TrailingZeros64 _  _ (hT.hp hH)) (run_call1 Tryd.call92 rfl) ?_
    intro w3 hH4
    refine RL.val rfl (run_assign (v := I _) rfl) ?_
    refine RL.val rfl (run_assign (v := B true) rfl) ?_
    refine RL.nil ?_
    refine CW.ret ?_
    refine outP2 Tryd.results85 (congrArg I ?_) (congrArg B ?_) hH4.below <;> rw [leastv, if_neg ‹_›]

theorem c_mask_Each (f : FuncId) (cap : Array Value) (Inv Stop : List Int → World → Prop) (s : BitVec 64) (w : World) (hf : ∀ args w, (callFunc f args).run Tryd.prog w = .ok (.enter f args) w) (hm : ∀ l w w', Inv l w → Below w.heap.size w w' → Inv l w') (hT : ∀ l w, Inv l w → Tab w) (go : ∀ l i r w, lst s = l ++ i :: r → Inv l w → Calls Tryd.prog f (#[I i] ++ cap) w (Ret fun u w' => ∃ c : Bool, u = B c ∧ (c = true → Inv (l ++ [i]) w') ∧ (c = false → Stop (l ++ [i]) w'))) (h0 : Inv [] w) : Calls Tryd.prog 86 #[U s, .func (.func f) #[] cap] w (Ret fun u w' => u = .tuple #[] ∧ (Inv (lst s) w' ∨ ∃ l i r, lst s = l ++ i :: r ∧ Stop (l ++ [i]) w')) := by
  refine enter Tryd.func86 rfl Tryd.ntmps86 rfl ?_
  have hH := Hp.start w
  refine CW.block ?_
  refine CW.loop (G := (BitVec 64) × (List Int)) (fun (⟨s1, l⟩ : (BitVec 64) × (List Int)) s' w' => (Fr [0, 4, 5, 6, 7, 8, 9, 10, 11, 12, 13, 14] _ s') ∧ (Inv l w') ∧ (s' 0 = U s1) ∧ (lst s = l ++ lst s1)) (fun (⟨s1, l⟩ : (BitVec 64) × (List Int)) => (lst s1).length) ((s, [])) ⟨Fr.refl _ _, h0, rfl, (by simp)⟩ ?_
  rintro ⟨s1, l⟩ sg1 w1 ⟨fr1, hH1, e0_1, hl⟩
  have hI1 := hH1
  clear hH1
  have hH1 := Hp.start w1
  have e1_1 : sg1 1 = .func _ _ _ := (fr1 1 rfl).trans rfl
  refine CW.seq ?_
  refine CW.seq ?_
  refine CW.region ?_
  refine RL.val rfl (run_move e0_1) ?_
  refine RL.val rfl (run_neqU rfl (b := 0#64) rfl) ?_
  refine RL.nil ?_
  refine CW.condP rfl (fun h3 => ?_) (fun h3 => ?_)
  · refine CW.skip ?_
    refine CW.block ?_
    refine CW.seq ?_
    refine CW.seq ?_
    refine CW.region ?_
    refine RL.val rfl (run_move e1_1) ?_
    refine RL.val rfl (run_move e0_1) ?_
    refine RL.callP rfl hH1 (c_bits_TrailingZeros64 _ _ (hT _ _ hI1)) (run_call1 Tryd.call92 rfl) ?_
    intro w4 hH5
    have hI := hm _ _ _ hI1 hH5.below
    refine RL.call rfl (run_callV1 hf rfl (v1 := I (tz s1)) rfl) (go l (tz s1) (lst (s1 &&& (s1 - 1#64))) _ (by rw [hl, lst_tz ‹_›]) hI) ?_
    rintro u8 w6 ⟨c, rfl, hJ1, hJ2⟩
    have hH7 := Hp.start w6
    refine RL.val rfl (run_not rfl) ?_
    refine RL.nil ?_
    refine CW.cond rfl (fun h11 => ?_) (fun h11 => ?_)
    · refine CW.ret ?_
      exact out0 Tryd.results86 ⟨rfl, .inr ⟨l, tz s1, lst (s1 &&& (s1 - 1#64)), by rw [hl, lst_tz ‹_›], hJ2 (by simpa using ‹(!c) = true›)⟩⟩
    · refine CW.skip ?_
      refine CW.region ?_
      refine RL.val rfl (run_move e0_1) ?_
      refine RL.val rfl (run_move e0_1) ?_
      refine RL.val rfl (run_subU rfl (b := 1#64) rfl) ?_
      refine RL.val rfl (run_andU rfl rfl) ?_
      refine RL.val rfl (run_assign (v := U _) rfl) ?_
      refine RL.nil ?_
      refine ⟨(s1 &&& (s1 - 1#64), l ++ [tz s1]), ?_, (((((((((((fr1.u rfl).u rfl).u rfl).u rfl).u rfl).u rfl).u rfl).u rfl).u rfl).u rfl).u rfl).u rfl, (hJ1 (by simpa using ‹(!c) = false›)), rfl, ?_⟩
      · exact lst_clear_lt ‹_›
      · rw [hl, lst_tz ‹_›]; simp
  · refine CW.exit (id := 0) rfl ?_
    have hn : lst s1 = [] := lst_eq_nil.2 (by simpa using ‹¬ s1 ≠ 0#64›)
    exact out0 Tryd.results86 ⟨rfl, .inl (by rw [hl, hn, List.append_nil]; assumption)⟩

theorem c_mask_List_1 (W0 : World) (b : Nat) (v : Value) (l : List Int) (i : Int) (w : World) (hH : Hp W0 w [.row v 3 1 l.length (l.map I), .blk b (.cells #[v] 74 (0, 0))]) (hlen : l.length ≤ 64) : Calls Tryd.prog 87 #[I i, .pointer (some ⟨b, 0, none⟩)] w (Ret fun u w' => u = B true ∧ ∃ v', Hp W0 w' [.row v' 3 1 (l ++ [i]).length ((l ++ [i]).map I), .blk b (.cells #[v'] 74 (0, 0))]) := by
  refine enter Tryd.func87 rfl Tryd.ntmps87 rfl ?_
  refine CW.seq ?_
  refine CW.region ?_
  refine RL.val rfl (run_assign (v := B false) rfl) ?_
  refine RL.nil ?_
  refine CW.seq ?_
  refine CW.region ?_
  refine RL.val rfl (run_ld Tryd.underlying74 rfl rfl (hH.cell (i := 1) rfl rfl)) ?_
  refine RL.val rfl (run_move (v := I _) rfl) ?_
  refine RL.new rfl hH (f := fun b => (.slice (some ⟨b, 0, none⟩) 1 1)) (run_mkL Tryd.underlying74 rfl rfl (sz := 1) (vs := [I _]) rfl rfl (by decide) (by decide) rfl rfl) ?_
  intro b3 w1 hH2
  (try simp only [List.flatMap_cons, List.flatMap_nil, clI, clB, clS, clP, clL, clA, List.append_nil, List.cons_append, List.nil_append] at hH2)
  refine RL.app rfl hH2 (i := 1) rfl (hH2.slBlk (i := 0) (n := 1) (sz := 1) rfl rfl (by decide)) rfl rfl Tryd.underlying74 rfl rfl (size := 1) (bytes := 8) rfl rfl rfl (by decide) (by simp [Value.oneCell']) (by omega) (by simp only [maxLen]; omega) ?_
  intro v4 w5 hH6
  simp only [List.set_cons_zero, List.set_cons_succ] at hH6
  refine RL.set hH6 (i := 2) rfl (run_st rfl rfl (by conv => lhs; whnf) (row_cells (hH6.get (i := 1) rfl)).1 (row_cells (hH6.get (i := 1) rfl)).2 (hH6.blk (i := 2) rfl) (by first | decide | simp)) ?_
  intro w7 hH8
  simp only [List.set_cons_zero, List.set_cons_succ] at hH8
  refine RL.nil ?_
  refine CW.seq ?_
  refine CW.region ?_
  refine RL.val rfl (run_assign (v := B true) rfl) ?_
  refine RL.nil ?_
  refine CW.ret ?_
  exact out1 Tryd.results87 rfl ⟨rfl, (v4 : Value), Hp.conv hH8.tail (by simp)⟩

theorem c_mask_List (s : BitVec 64) (w : World) (hT : Tab w) : Calls Tryd.prog 68 #[U s] w (PureRow 3 1 (lst s).length ((lst s).map I) w) := by
  refine enter Tryd.func68 rfl Tryd.ntmps68 rfl ?_
  have hH := Hp.start w
  refine CW.seq ?_
  refine CW.region ?_
  refine RL.val rfl (run_assign (v := .slice none 0 0) rfl) ?_
  refine RL.nil ?_
  refine CW.seq ?_
  refine CW.region ?_
  refine RL.new rfl hH (f := fun b => (.pointer (some ⟨b, 0, none⟩))) (run_alloc Tryd.zeroValue74) ?_
  intro b3 w1 hH2
  have hH4 := hH2.nilRow 3 1
  refine RL.nil ?_
  refine CW.seq ?_
  refine CW.region ?_
  refine RL.val rfl (run_move (v := U _) rfl) ?_
  refine RL.val rfl (run_mkF1 (by conv => lhs; whnf)) ?_
  refine RL.call rfl (run_call2 Tryd.call86 (v1 := U s) rfl (v2 := .func (.func 87) #[] #[.pointer (some ⟨b3, 0, none⟩)]) rfl) (c_mask_Each 87 _ (fun l w' => ∃ v, Hp w w' [.row v 3 1 l.length (l.map I), .blk b3 (.cells #[v] 74 (0, 0))]) (fun _ _ => False) s _ Tryd.call87 (fun l w' w'' h hb => h.imp fun v h => h.call hb) (fun l w' h => h.elim fun v h => hT.hp h) (fun l i r w' he h => h.elim fun v h => by
      have hl64 : l.length ≤ 64 := by have := lst_len s; rw [he] at this; simp at this; omega
      have hc := c_mask_List_1 w b3 v l i w' h hl64
      refine Ret.calls hc ?_
      intro u w2 hq
      exact ⟨true, hq.1, fun _ => hq.2, fun h => by cases h⟩) ⟨.slice none 0 0, hH4⟩) ?_
  rintro u w5 ⟨rfl, hor⟩
  obtain ⟨v7, hH6⟩ := hor.resolve_right (fun ⟨_, _, _, _, h⟩ => h)
  refine RL.nil ?_
  refine CW.seq ?_
  refine CW.region ?_
  refine RL.val rfl (run_ld Tryd.underlying74 rfl rfl (hH6.cell (i := 1) rfl rfl)) ?_
  refine RL.val rfl (run_assign (by conv => lhs; whnf)) ?_
  refine RL.nil ?_
  refine CW.ret ?_
  exact outR Tryd.results68 rfl hH6 (i := 0) rfl (rfl) (rfl)

theorem c_clearanceref03_Points (r : Rl) (w : World) : Calls Tryd.prog 47 #[.agg (relC r)] w (Pure (I (pts r)) w) := by
  refine enter Tryd.func47 rfl Tryd.ntmps47 rfl ?_
  have hH := Hp.start w
  refine CW.seq ?_
  refine CW.region ?_
  refine RL.new rfl hH (f := fun b => (.pointer (some ⟨b, 0, none⟩))) (run_box (v := .agg _) rfl) ?_
  intro b3 w1 hH2
  refine RL.val rfl (run_assign (v := I 0) rfl) ?_
  refine RL.nil ?_
  refine CW.seq ?_
  refine CW.seq ?_
  refine CW.region ?_
  refine RL.val rfl (run_fieldAddr Tryd.underlying34 rfl (off := 0) rfl Tryd.sizeOf3 (by decide) rfl) ?_
  refine RL.val rfl (run_ld Tryd.underlying3 rfl rfl (hH2.cell (i := 0) rfl (relC_N _))) ?_
  refine RL.val rfl (run_lss rfl rfl) ?_
  refine RL.nil ?_
  refine CW.condP rfl (fun h5 => ?_) (fun h5 => ?_)
  · refine CW.seq ?_
    refine CW.region ?_
    refine RL.val rfl (run_assign (v := I 0) rfl) ?_
    refine RL.nil ?_
    refine CW.ret ?_
    refine outP1 Tryd.results47 (congrArg I ?_) hH2.below
    (unfold pts; omega)
  · refine CW.skip ?_
    refine CW.seq ?_
    refine CW.seq ?_
    refine CW.region ?_
    refine RL.val rfl (run_fieldAddr Tryd.underlying34 rfl (off := 0) rfl Tryd.sizeOf3 (by decide) rfl) ?_
    refine RL.val rfl (run_ld Tryd.underlying3 rfl rfl (hH2.cell (i := 0) rfl (relC_N _))) ?_
    refine RL.val rfl (run_gtr rfl rfl) ?_
    refine RL.nil ?_
    refine CW.condP rfl (fun h7 => ?_) (fun h7 => ?_)
    · refine CW.seq ?_
      refine CW.region ?_
      refine RL.val rfl (run_assign (v := I 64) rfl) ?_
      refine RL.nil ?_
      refine CW.ret ?_
      refine outP1 Tryd.results47 (congrArg I ?_) hH2.below
      (unfold pts; omega)
    · refine CW.skip ?_
      refine CW.seq ?_
      refine CW.region ?_
      refine RL.val rfl (run_fieldAddr Tryd.underlying34 rfl (off := 0) rfl Tryd.sizeOf3 (by decide) rfl) ?_
      refine RL.val rfl (run_ld Tryd.underlying3 rfl rfl (hH2.cell (i := 0) rfl (relC_N _))) ?_
      refine RL.val rfl (run_assign (v := I _) rfl) ?_
      refine RL.nil ?_
      refine CW.ret ?_
      refine outP1 Tryd.results47 (congrArg I ?_) hH2.below
      (unfold pts; omega)

theorem c_relate_points (r : Rl) (w : World) : Calls Tryd.prog 67 #[.agg (relC r)] w (Pure (I (pts r)) w) := by
  refine enter Tryd.func67 rfl Tryd.ntmps67 rfl ?_
  have hH := Hp.start w
  refine CW.seq ?_
  refine CW.region ?_
  refine RL.new rfl hH (f := fun b => (.pointer (some ⟨b, 0, none⟩))) (run_box (v := .agg _) rfl) ?_
  intro b3 w1 hH2
  refine RL.val rfl (run_assign (v := I 0) rfl) ?_
  refine RL.nil ?_
  refine CW.seq ?_
  refine CW.region ?_
  refine RL.val rfl (run_fieldAddr Tryd.underlying34 rfl (off := 0) rfl Tryd.sizeOf3 (by decide) rfl) ?_
  refine RL.val rfl (run_ld Tryd.underlying3 rfl rfl (hH2.cell (i := 0) rfl (relC_N _))) ?_
  refine RL.val rfl (run_minI rfl rfl) ?_
  refine RL.val rfl (run_maxI rfl rfl) ?_
  refine RL.val rfl (run_assign (v := I _) rfl) ?_
  refine RL.nil ?_
  refine CW.ret ?_
  refine outP1 Tryd.results67 (congrArg I ?_) hH2.below
  rfl

theorem c_clearanceref03_Has (r : Rl) (i j : Int) (w : World) : Calls Tryd.prog 48 #[.agg (relC r), I i, I j] w (Pure (B (hasR r i j)) w) := by
  have hp := pts_bd r
  refine enter Tryd.func48 rfl Tryd.ntmps48 rfl ?_
  have hH := Hp.start w
  refine CW.seq ?_
  refine CW.region ?_
  refine RL.new rfl hH (f := fun b => (.pointer (some ⟨b, 0, none⟩))) (run_box (v := .agg _) rfl) ?_
  intro b3 w1 hH2
  refine RL.val rfl (run_assign (v := B false) rfl) ?_
  refine RL.nil ?_
  refine CW.seq ?_
  refine CW.region ?_
  refine RL.val rfl (run_ldRel Tryd.underlying34 rfl rfl rfl (hH2.blk (i := 0) rfl)) ?_
  refine RL.callP rfl hH2 (c_clearanceref03_Points _  _) (run_call1 Tryd.call47 rfl) ?_
  intro w4 hH5
  refine RL.val rfl (run_assign (v := I _) rfl) ?_
  refine RL.nil ?_
  refine CW.seq ?_
  refine CW.region ?_
  refine RL.val rfl (run_move (v := I _) rfl) ?_
  refine RL.val rfl (run_geq rfl rfl) ?_
  refine RL.val rfl (run_move (v := B _) rfl) ?_
  refine RL.splitP (dj := 12) rfl (fun h7 => ?_) (fun h7 => ?_)
  · refine RL.gT rfl (bT h7) ?_
    refine RL.val rfl (run_move (v := I _) rfl) ?_
    refine RL.gT rfl (bT h7) ?_
    refine RL.val rfl (run_geq rfl rfl) ?_
    refine RL.val rfl (run_pickT (bT h7) (v := B _) rfl) ?_
    refine RL.val rfl (run_move (v := B _) rfl) ?_
    refine RL.splitP (dj := 16) rfl (fun h9 => ?_) (fun h9 => ?_)
    · refine RL.gT rfl (bT h9) ?_
      refine RL.val rfl (run_move (v := I _) rfl) ?_
      refine RL.gT rfl (bT h9) ?_
      refine RL.val rfl (run_move (v := I _) rfl) ?_
      refine RL.gT rfl (bT h9) ?_
      refine RL.val rfl (run_lss rfl rfl) ?_
      refine RL.val rfl (run_pickT (bT h9) (v := B _) rfl) ?_
      refine RL.val rfl (run_move (v := B _) rfl) ?_
      refine RL.splitP (dj := 21) rfl (fun h11 => ?_) (fun h11 => ?_)
      · refine RL.gT rfl (bT h11) ?_
        refine RL.val rfl (run_move (v := I _) rfl) ?_
        refine RL.gT rfl (bT h11) ?_
        refine RL.val rfl (run_move (v := I _) rfl) ?_
        refine RL.gT rfl (bT h11) ?_
        refine RL.val rfl (run_lss rfl rfl) ?_
        refine RL.val rfl (run_pickT (bT h11) (v := B _) rfl) ?_
        refine RL.val rfl (run_move (v := B _) rfl) ?_
        refine RL.splitP (dj := 26) rfl (fun h13 => ?_) (fun h13 => ?_)
        · refine RL.gT rfl (bT h13) ?_
          refine RL.val rfl (run_move (v := I _) rfl) ?_
          refine RL.gT rfl (bT h13) ?_
          refine RL.val rfl (run_fieldAddr Tryd.underlying34 rfl (off := 1) rfl Tryd.sizeOf32 (by decide) rfl) ?_
          refine RL.gT rfl (bT h13) ?_
          refine RL.val rfl (run_indexAddrA Tryd.underlying32 Tryd.sizeOf31 rfl rfl (by omega)) ?_
          refine RL.gT rfl (bT h13) ?_
          refine RL.val rfl (run_ld Tryd.underlying31 rfl rfl (hH5.cell (i := 0) rfl (relC_up _ (by omega)))) ?_
          refine RL.gT rfl (bT h13) ?_
          refine RL.val rfl (run_move (v := I _) rfl) ?_
          refine RL.gT rfl (bT h13) ?_
          refine RL.val rfl (run_convIU Tryd.underlying3 Tryd.underlying81 rfl) ?_
          refine RL.gT rfl (bT h13) ?_
          refine RL.val rfl (run_shrU rfl rfl) ?_
          refine RL.gT rfl (bT h13) ?_
          refine RL.val rfl (run_remU rfl (b := 2#64) rfl (by decide)) ?_
          refine RL.gT rfl (bT h13) ?_
          refine RL.val rfl (run_eqlU rfl (b := 1#64) rfl) ?_
          refine RL.val rfl (run_pickT (bT h13) (v := B _) rfl) ?_
          refine RL.val rfl (run_assign (v := B _) rfl) ?_
          refine RL.nil ?_
          refine CW.ret ?_
          refine outP1 Tryd.results48 (congrArg B ?_) hH5.below
          first | exact has_ref (by omega) (by omega) (by omega) (by omega) | exact (has_out (by omega)).symm
        · refine RL.gF rfl rfl (bF h13) rfl ?_
          refine RL.gF rfl rfl (bF h13) rfl ?_
          refine RL.gF rfl rfl (bF h13) rfl ?_
          refine RL.gF rfl rfl (bF h13) rfl ?_
          refine RL.gF rfl rfl (bF h13) rfl ?_
          refine RL.gF rfl rfl (bF h13) rfl ?_
          refine RL.gF rfl rfl (bF h13) rfl ?_
          refine RL.gF rfl rfl (bF h13) rfl ?_
          refine RL.gF rfl rfl (bF h13) rfl ?_
          refine RL.val rfl (run_pickF (bF h13) (v := B false) rfl) ?_
          refine RL.val rfl (run_assign (v := B _) rfl) ?_
          refine RL.nil ?_
          refine CW.ret ?_
          refine outP1 Tryd.results48 (congrArg B ?_) hH5.below
          first | exact has_ref (by omega) (by omega) (by omega) (by omega) | exact (has_out (by omega)).symm
      · refine RL.gF rfl rfl (bF h11) rfl ?_
        refine RL.gF rfl rfl (bF h11) rfl ?_
        refine RL.gF rfl rfl (bF h11) rfl ?_
        refine RL.val rfl (run_pickF (bF h11) (v := B false) rfl) ?_
        refine RL.val rfl (run_move (v := B _) rfl) ?_
        refine RL.gF rfl rfl rfl rfl ?_
        refine RL.gF rfl rfl rfl rfl ?_
        refine RL.gF rfl rfl rfl rfl ?_
        refine RL.gF rfl rfl rfl rfl ?_
        refine RL.gF rfl rfl rfl rfl ?_
        refine RL.gF rfl rfl rfl rfl ?_
        refine RL.gF rfl rfl rfl rfl ?_
        refine RL.gF rfl rfl rfl rfl ?_
        refine RL.gF rfl rfl rfl rfl ?_
        refine RL.val rfl (run_pickF rfl (v := B false) rfl) ?_
        refine RL.val rfl (run_assign (v := B _) rfl) ?_
        refine RL.nil ?_
        refine CW.ret ?_
        refine outP1 Tryd.results48 (congrArg B ?_) hH5.below
        first | exact has_ref (by omega) (by omega) (by omega) (by omega) | exact (has_out (by omega)).symm
    · refine RL.gF rfl rfl (bF h9) rfl ?_
      refine RL.gF rfl rfl (bF h9) rfl ?_
      refine RL.gF rfl rfl (bF h9) rfl ?_
      refine RL.val rfl (run_pickF (bF h9) (v := B false) rfl) ?_
      refine RL.val rfl (run_move (v := B _) rfl) ?_
      refine RL.gF rfl rfl rfl rfl ?_
      refine RL.gF rfl rfl rfl rfl ?_
      refine RL.gF rfl rfl rfl rfl ?_
      refine RL.val rfl (run_pickF rfl (v := B false) rfl) ?_
      refine RL.val rfl (run_move (v := B _) rfl) ?_
      refine RL.gF rfl rfl rfl rfl ?_
      refine RL.gF rfl rfl rfl rfl ?_
      refine RL.gF rfl rfl rfl rfl ?_
      refine RL.gF rfl rfl rfl rfl ?_
      refine RL.gF rfl rfl rfl rfl ?_
      refine RL.gF rfl rfl rfl rfl ?_
      refine RL.gF rfl rfl rfl rfl ?_
      refine RL.gF rfl rfl rfl rfl ?_
      refine RL.gF rfl rfl rfl rfl ?_
      refine RL.val rfl (run_pickF rfl (v := B false) rfl) ?_
      refine RL.val rfl (run_assign (v := B _) rfl) ?_
      refine RL.nil ?_
      refine CW.ret ?_
      refine outP1 Tryd.results48 (congrArg B ?_) hH5.below
      first | exact has_ref (by omega) (by omega) (by omega) (by omega) | exact (has_out (by omega)).symm
  · refine RL.gF rfl rfl (bF h7) rfl ?_
    refine RL.gF rfl rfl (bF h7) rfl ?_
    refine RL.val rfl (run_pickF (bF h7) (v := B false) rfl) ?_
    refine RL.val rfl (run_move (v := B _) rfl) ?_
    refine RL.gF rfl rfl rfl rfl ?_
    refine RL.gF rfl rfl rfl rfl ?_
    refine RL.gF rfl rfl rfl rfl ?_
    refine RL.val rfl (run_pickF rfl (v := B false) rfl) ?_
    refine RL.val rfl (run_move (v := B _) rfl) ?_
    refine RL.gF rfl rfl rfl rfl ?_
    refine RL.gF rfl rfl rfl rfl ?_
    refine RL.gF rfl rfl rfl rfl ?_
    refine RL.val rfl (run_pickF rfl (v := B false) rfl) ?_
    refine RL.val rfl (run_move (v := B _) rfl) ?_
    refine RL.gF rfl rfl rfl rfl ?_
    refine RL.gF rfl rfl rfl rfl ?_
    refine RL.gF rfl rfl rfl rfl ?_
    refine RL.gF rfl rfl rfl rfl ?_
    refine RL.gF rfl rfl rfl rfl ?_
    refine RL.gF rfl rfl rfl rfl ?_
    refine RL.gF rfl rfl rfl rfl ?_
    refine RL.gF rfl rfl rfl rfl ?_
    refine RL.gF rfl rfl rfl rfl ?_
    refine RL.val rfl (run_pickF rfl (v := B false) rfl) ?_
    refine RL.val rfl (run_assign (v := B _) rfl) ?_
    refine RL.nil ?_
    refine CW.ret ?_
    refine outP1 Tryd.results48 (congrArg B ?_) hH5.below
    first | exact has_ref (by omega) (by omega) (by omega) (by omega) | exact (has_out (by omega)).symm

theorem c_relate_row (r : Rl) (i : Int) (hi : 0 ≤ i ∧ i < 64) (w : World) : Calls Tryd.prog 75 #[.agg (relC r), I i] w (Pure (U (rowR r i)) w) := by
  refine enter Tryd.func75 rfl Tryd.ntmps75 rfl ?_
  have hH := Hp.start w
  refine CW.seq ?_
  refine CW.region ?_
  refine RL.new rfl hH (f := fun b => (.pointer (some ⟨b, 0, none⟩))) (run_box (v := .agg _) rfl) ?_
  intro b3 w1 hH2
  refine RL.val rfl (run_assign (v := U 0#64) rfl) ?_
  refine RL.nil ?_
  refine CW.seq ?_
  refine CW.regionD (by kernel_rfl) hH2 ?_
  intro w4 hH5
  refine AN.take 0 rfl rfl (by kernel_rfl) (by kernel_rfl) (by kernel_rfl) (hH5.sub (List.Sublist.refl _)) (fun w hS => run_move (v := I _) rfl) ?_
  refine AN.take 1 rfl rfl (by kernel_rfl) (by kernel_rfl) (by kernel_rfl) (hH5.sub (List.Sublist.refl _)) (fun w hS => run_fieldAddr Tryd.underlying34 rfl (off := 1) rfl Tryd.sizeOf32 (by decide) rfl) ?_
  refine AN.take 2 rfl rfl (by kernel_rfl) (by kernel_rfl) (by kernel_rfl) (hH5.sub (List.Sublist.refl _)) (fun w hS => run_indexAddrA Tryd.underlying32 Tryd.sizeOf31 rfl rfl (by omega)) ?_
  refine AN.take 3 rfl rfl (by kernel_rfl) (by kernel_rfl) (by kernel_rfl) (hH5.sub (List.Sublist.refl _)) (fun w hS => run_ld Tryd.underlying31 rfl rfl (hS.cell (i := 0) rfl (relC_up _ (by omega)))) ?_
  refine AN.take 4 rfl rfl (by kernel_rfl) (by kernel_rfl) (by kernel_rfl) (hH5.sub (List.Sublist.refl _)) (fun w hS => run_ldRel Tryd.underlying34 rfl rfl rfl (hS.blk (i := 0) rfl)) ?_
  refine AN.one 5 (by kernel_rfl) ?_
  refine AO.callP rfl gnone rfl hH5 (List.Sublist.refl _) (c_relate_points _  _) (run_call1 Tryd.call67 rfl) ?_
  intro w6 hH7
  refine AN.one 6 (by kernel_rfl) ?_
  refine AO.callP rfl gnone rfl hH7 (List.Sublist.refl _) (c_mask_Below _  _) (run_call1 Tryd.call38 rfl) ?_
  intro w8 hH9
  refine AN.take 7 rfl rfl (by kernel_rfl) (by kernel_rfl) (by kernel_rfl) (hH9.sub (List.Sublist.refl _)) (fun w hS => run_andU rfl rfl) ?_
  refine AN.take 8 rfl rfl (by kernel_rfl) (by kernel_rfl) (by kernel_rfl) (hH9.sub (List.Sublist.refl _)) (fun w hS => run_assign (v := U _) rfl) ?_
  refine AN.done (by kernel_rfl) ?_
  refine CW.ret ?_
  refine outP1 Tryd.results75 (congrArg U ?_) hH9.below
  rfl

theorem c_relate_strict (r : Rl) (i : Int) (hi : 0 ≤ i ∧ i < 64) (w : World) : Calls Tryd.prog 69 #[.agg (relC r), I i] w (Pure (U (strictR r i)) w) := by
  refine enter Tryd.func69 rfl Tryd.ntmps69 rfl ?_
  have hH := Hp.start w
  refine CW.seq ?_
  refine CW.region ?_
  refine RL.new rfl hH (f := fun b => (.pointer (some ⟨b, 0, none⟩))) (run_box (v := .agg _) rfl) ?_
  intro b3 w1 hH2
  refine RL.val rfl (run_assign (v := U 0#64) rfl) ?_
  refine RL.nil ?_
  refine CW.seq ?_
  refine CW.region ?_
  refine RL.val rfl (run_ldRel Tryd.underlying34 rfl rfl rfl (hH2.blk (i := 0) rfl)) ?_
  refine RL.val rfl (run_move (v := I _) rfl) ?_
  refine RL.callP rfl hH2 (c_relate_row _ _ (by first | assumption | omega | (dsimp only at *; omega) | exact lst_at_bd (by assumption) (by assumption) | exact low_bd (lst_at (by assumption) (by assumption))) _) (run_call2 Tryd.call75 rfl rfl) ?_
  intro w4 hH5
  refine RL.val rfl (run_move (v := I _) rfl) ?_
  refine RL.callP rfl hH5 (c_mask_Without _ _  _) (run_call2 Tryd.call88 rfl rfl) ?_
  intro w6 hH7
  refine RL.val rfl (run_assign (v := U _) rfl) ?_
  refine RL.nil ?_
  refine CW.ret ?_
  refine outP1 Tryd.results69 (congrArg U ?_) hH7.below
  rfl

theorem c_relate_plain (r : Rl) (w : World) : Calls Tryd.prog 52 #[.agg (relC r)] w (Pure (.agg (relC (plainR r))) w) := by
  have hp := pts_bd r
  refine enter Tryd.func52 rfl Tryd.ntmps52 rfl ?_
  have hH := Hp.start w
  refine CW.seq ?_
  refine CW.region ?_
  refine RL.new rfl hH (f := fun b => (.pointer (some ⟨b, 0, none⟩))) (run_box (v := .agg _) rfl) ?_
  intro b3 w1 hH2
  refine RL.new rfl hH2 (f := fun b => (.pointer (some ⟨b, 0, none⟩))) (run_alloc zero_rel) ?_
  intro b6 w4 hH5
  refine RL.nil ?_
  refine CW.seq ?_
  refine CW.region ?_
  refine RL.val rfl (run_ldRel Tryd.underlying34 rfl rfl rfl (hH5.blk (i := 1) rfl)) ?_
  refine RL.callP rfl hH5 (c_relate_points _  _) (run_call1 Tryd.call67 rfl) ?_
  intro w7 hH8
  refine RL.val rfl (run_bld (vs := [(0, I _)]) rfl (built_rel _)) ?_
  refine RL.new rfl hH8 (f := fun b => (.pointer (some ⟨b, 0, none⟩))) (run_alloc zero_rel) ?_
  intro b11 w9 hH10
  refine RL.set hH10 (i := 0) rfl (run_stRel rfl rfl rfl (hH10.blk (i := 0) rfl)) ?_
  intro w12 hH13
  simp only [List.set_cons_zero, List.set_cons_succ] at hH13
  refine RL.nil ?_
  refine CW.seq ?_
  refine CW.seq ?_
  refine CW.region ?_
  refine RL.val rfl (run_fieldAddr Tryd.underlying34 rfl (off := 0) rfl Tryd.sizeOf3 (by decide) rfl) ?_
  refine RL.val rfl (run_ld Tryd.underlying3 rfl rfl (hH13.cell (i := 0) rfl (relC_N _))) ?_
  refine RL.val rfl (run_move (v := I 0) rfl) ?_
  refine RL.nil ?_
  refine CW.block ?_
  have hz : (⟨pts r, fun _ => 0#64⟩ : Rl).n = pts r := rfl
  refine CW.loop (G := (Int) × (Rl)) (fun (⟨k, r1⟩ : (Int) × (Rl)) s' w' => (Fr [4, 10, 11, 12, 13, 14, 15, 16, 17, 18, 19] _ s') ∧ (Hp w w' (.blk b11 (.cells (relC r1) 34 (0, 0)) :: _)) ∧ (s' 10 = I k) ∧ (0 ≤ k) ∧ (k ≤ pts r) ∧ (r1 = fillR (pts r) (fun i => rowR r i) k)) (fun (⟨k, r1⟩ : (Int) × (Rl)) => (pts r - k).toNat) ((0, ⟨pts r, fun _ => 0#64⟩)) ⟨Fr.refl _ _, hH13, rfl, (by omega), (by omega), fill_zero _ _⟩ ?_
  rintro ⟨k, r1⟩ sg14 w14 ⟨fr14, hH14, e10_14, h0, hk, hr⟩
  have e1_14 : sg14 1 = .pointer (some ⟨_, _, none⟩) := (fr14 1 rfl).trans rfl
  have e2_14 : sg14 2 = .pointer (some ⟨_, _, none⟩) := (fr14 2 rfl).trans rfl
  have e3_14 : sg14 3 = .pointer (some ⟨_, _, none⟩) := (fr14 3 rfl).trans rfl
  have e9_14 : sg14 9 = I _ := (fr14 9 rfl).trans rfl
  have hn : r1.n = pts r := by rw [hr]; rfl
  refine CW.seq ?_
  refine CW.region ?_
  refine RL.val rfl (run_lss e10_14 e9_14) ?_
  refine RL.nil ?_
  refine CW.seq ?_
  refine CW.condP rfl (fun h16 => ?_) (fun h16 => ?_)
  · refine CW.skip ?_
    refine CW.seq ?_
    refine CW.block ?_
    refine CW.seq ?_
    refine CW.region ?_
    refine RL.val rfl (run_move e10_14) ?_
    refine RL.val rfl (run_assign (v := I _) rfl) ?_
    refine RL.nil ?_
    refine CW.region ?_
    refine RL.val rfl (run_move (v := I _) rfl) ?_
    refine RL.val rfl (run_ldRel Tryd.underlying34 rfl rfl e1_14 (hH14.blk (i := 2) rfl)) ?_
    refine RL.val rfl (run_move (v := I _) rfl) ?_
    refine RL.callP rfl hH14 (c_relate_row _ _ (by first | assumption | omega | (dsimp only at *; omega) | exact lst_at_bd (by assumption) (by assumption) | exact low_bd (lst_at (by assumption) (by assumption))) _) (run_call2 Tryd.call75 rfl rfl) ?_
    intro w17 hH18
    refine RL.val rfl (run_fieldAddr Tryd.underlying34 rfl (off := 1) rfl Tryd.sizeOf32 (by decide) e3_14) ?_
    refine RL.val rfl (run_indexAddrA Tryd.underlying32 Tryd.sizeOf31 rfl rfl (by first | omega | (dsimp only at *; omega))) ?_
    refine RL.set hH18 (i := 0) rfl (run_st rfl rfl (v := U _) rfl rfl rfl (hH18.blk (i := 0) rfl) (by rw [relC_size]; omega)) ?_
    intro w19 hH20
    simp only [List.set_cons_zero, List.set_cons_succ] at hH20
    rw [relC_put] at hH20
    refine RL.nil ?_
    refine CW.region ?_
    refine RL.val rfl (run_add e10_14 rfl (by omega)) ?_
    refine RL.val rfl (run_move (v := I _) rfl) ?_
    refine RL.nil ?_
    refine ⟨(k + 1, _), ?_, ((((((((((fr14.u rfl).u rfl).u rfl).u rfl).u rfl).u rfl).u rfl).u rfl).u rfl).u rfl).u rfl, hH20, (congrArg I (by first | rfl | omega)), ?_, ?_, ?_⟩
    · ((try dsimp only); omega)
    · omega
    · omega
    · rw [hr]; exact fill_put h0 (by rw [Int.toNat_of_nonneg h0])
  · refine CW.exit (id := 0) rfl ?_
    refine CW.seq ?_
    refine CW.region ?_
    refine RL.val rfl (run_ldRel Tryd.underlying34 rfl rfl e3_14 (hH14.blk (i := 0) rfl)) ?_
    refine RL.set hH14 (i := 1) rfl (run_stRel rfl e2_14 rfl (hH14.blk (i := 1) rfl)) ?_
    intro w21 hH22
    simp only [List.set_cons_zero, List.set_cons_succ] at hH22
    refine RL.nil ?_
    refine CW.ret ?_
    refine outC Tryd.results52 e2_14 hH22 (i := 1) rfl Tryd.underlying34 rfl rfl ⟨?_, hH22.below⟩
    (rw [hr, show k = pts r by omega]; rfl)

theorem c_relate_Up (r : Rl) (s : BitVec 64) (w : World) (hT : Tab w) : Calls Tryd.prog 79 #[.agg (relC r), U s] w (Pure (U (upR r s)) w) := by
  have hp := pts_bd r
  refine enter Tryd.func79 rfl Tryd.ntmps79 rfl ?_
  have hH := Hp.start w
  refine CW.seq ?_
  refine CW.region ?_
  refine RL.new rfl hH (f := fun b => (.pointer (some ⟨b, 0, none⟩))) (run_box (v := .agg _) rfl) ?_
  intro b3 w1 hH2
  refine RL.val rfl (run_assign (v := U 0#64) rfl) ?_
  refine RL.nil ?_
  refine CW.seq ?_
  refine CW.region ?_
  refine RL.val rfl (run_assign (v := U 0#64) rfl) ?_
  refine RL.nil ?_
  refine CW.seq ?_
  refine CW.seq ?_
  refine CW.region ?_
  refine RL.val rfl (run_move (v := U _) rfl) ?_
  refine RL.val rfl (run_ldRel Tryd.underlying34 rfl rfl rfl (hH2.blk (i := 0) rfl)) ?_
  refine RL.callP rfl hH2 (c_relate_points _  _) (run_call1 Tryd.call67 rfl) ?_
  intro w4 hH5
  refine RL.callP rfl hH5 (c_mask_Below _  _) (run_call1 Tryd.call38 rfl) ?_
  intro w6 hH7
  refine RL.val rfl (run_andU rfl rfl) ?_
  refine RL.callR rfl hH7 (c_mask_List _  _ (hT.hp hH7)) (run_call1 Tryd.call68 rfl) ?_
  intro v10 w8 hH9
  refine RL.val rfl (run_lenSl (hH9.sl (i := 0) rfl) rfl Tryd.underlying74 rfl) ?_
  refine RL.val rfl (run_move (v := I 0) rfl) ?_
  refine RL.nil ?_
  refine CW.block ?_
  have hl := lst_len (s &&& below (pts r))
  refine CW.loop (G := (Int)) (fun (k : Int) s' w' => (Fr [5, 7, 15, 16, 17, 18, 19, 20, 21, 22, 23, 24] _ s') ∧ (Hp w w' _) ∧ (s' 5 = U (orAll (rowR r) ((lst (s &&& below (pts r))).take k.toNat))) ∧ (s' 15 = I k) ∧ (0 ≤ k) ∧ (k ≤ (lst (s &&& below (pts r))).length)) (fun (k : Int) => ((lst (s &&& below (pts r))).length - k).toNat) (0) ⟨Fr.refl _ _, hH9, (congrArg U (by simp [orAll])), rfl, (by omega), (by omega)⟩ ?_
  rintro k sg11 w11 ⟨fr11, hH11, e5_11, e15_11, h0, hk⟩
  have e2_11 : sg11 2 = .pointer (some ⟨_, _, none⟩) := (fr11 2 rfl).trans rfl
  have e4_11 : sg11 4 = U _ := (fr11 4 rfl).trans rfl
  have e13_11 := (fr11 13 rfl).trans (by conv => lhs; whnf)
  have e14_11 : sg11 14 = I _ := (fr11 14 rfl).trans rfl
  refine CW.seq ?_
  refine CW.region ?_
  refine RL.val rfl (run_lss e15_11 e14_11) ?_
  refine RL.nil ?_
  refine CW.seq ?_
  refine CW.condP rfl (fun h13 => ?_) (fun h13 => ?_)
  · refine CW.skip ?_
    refine CW.seq ?_
    refine CW.block ?_
    refine CW.seq ?_
    refine CW.region ?_
    refine RL.val rfl (run_indexAddrS (hH11.sl (i := 0) rfl) Tryd.underlying74 Tryd.sizeOf3 e13_11 e15_11 (by omega)) ?_
    refine RL.val rfl (run_ld Tryd.underlying3 rfl rfl ((hH11.sl (i := 0) rfl).cell _ _ (map_at (by omega)))) ?_
    refine RL.val rfl (run_assign (v := I _) rfl) ?_
    refine RL.nil ?_
    refine CW.region ?_
    refine RL.val rfl (run_move e5_11) ?_
    refine RL.val rfl (run_ldRel Tryd.underlying34 rfl rfl e2_11 (hH11.blk (i := 1) rfl)) ?_
    refine RL.val rfl (run_move (v := I _) rfl) ?_
    refine RL.callP rfl hH11 (c_relate_row _ _ (by first | assumption | omega | (dsimp only at *; omega) | exact lst_at_bd (by assumption) (by assumption) | exact low_bd (lst_at (by assumption) (by assumption))) _) (run_call2 Tryd.call75 rfl rfl) ?_
    intro w14 hH15
    refine RL.val rfl (run_orU rfl rfl) ?_
    refine RL.val rfl (run_assign (v := U _) rfl) ?_
    refine RL.nil ?_
    refine CW.region ?_
    refine RL.val rfl (run_add e15_11 rfl (by omega)) ?_
    refine RL.val rfl (run_move (v := I _) rfl) ?_
    refine RL.nil ?_
    refine ⟨k + 1, ?_, (((((((((((fr11.u rfl).u rfl).u rfl).u rfl).u rfl).u rfl).u rfl).u rfl).u rfl).u rfl).u rfl).u rfl, hH15, (congrArg U (orAll_next h0 ‹_›)), (congrArg I (by first | rfl | omega)), ?_, ?_⟩
    · ((try dsimp only); omega)
    · omega
    · omega
  · refine CW.exit (id := 0) rfl ?_
    refine CW.seq ?_
    refine CW.region ?_
    refine RL.val rfl (run_move e5_11) ?_
    refine RL.val rfl (run_assign (v := U _) rfl) ?_
    refine RL.nil ?_
    refine CW.ret ?_
    refine outP1 Tryd.results79 (congrArg U ?_) hH11.below
    (rw [take_all ‹_›]; rfl)

theorem c_relate_Down (r : Rl) (s : BitVec 64) (w : World) : Calls Tryd.prog 81 #[.agg (relC r), U s] w (Pure (U (downR r s)) w) := by
  have hp := pts_bd r
  refine enter Tryd.func81 rfl Tryd.ntmps81 rfl ?_
  have hH := Hp.start w
  refine CW.seq ?_
  refine CW.region ?_
  refine RL.new rfl hH (f := fun b => (.pointer (some ⟨b, 0, none⟩))) (run_box (v := .agg _) rfl) ?_
  intro b3 w1 hH2
  refine RL.val rfl (run_assign (v := U 0#64) rfl) ?_
  refine RL.nil ?_
  refine CW.seq ?_
  refine CW.region ?_
  refine RL.val rfl (run_assign (v := U 0#64) rfl) ?_
  refine RL.nil ?_
  refine CW.seq ?_
  refine CW.seq ?_
  refine CW.region ?_
  refine RL.val rfl (run_ldRel Tryd.underlying34 rfl rfl rfl (hH2.blk (i := 0) rfl)) ?_
  refine RL.callP rfl hH2 (c_relate_points _  _) (run_call1 Tryd.call67 rfl) ?_
  intro w4 hH5
  refine RL.val rfl (run_move (v := I 0) rfl) ?_
  refine RL.nil ?_
  refine CW.block ?_
  refine CW.loop (G := (Int)) (fun (k : Int) s' w' => (Fr [5, 6, 9, 10, 11, 12, 13, 14, 15, 16, 17, 18, 19, 20, 21] _ s') ∧ (Hp w w' _) ∧ (s' 5 = U (downTo r s k)) ∧ (s' 9 = I k) ∧ (0 ≤ k) ∧ (k ≤ pts r)) (fun (k : Int) => (pts r - k).toNat) (0) ⟨Fr.refl _ _, hH5, (congrArg U (by simp [downTo, bitsTo])), rfl, (by omega), (by omega)⟩ ?_
  rintro k sg6 w6 ⟨fr6, hH6, e5_6, e9_6, h0, hk⟩
  have e1_6 : sg6 1 = U _ := (fr6 1 rfl).trans rfl
  have e2_6 : sg6 2 = .pointer (some ⟨_, _, none⟩) := (fr6 2 rfl).trans rfl
  have e4_6 : sg6 4 = U _ := (fr6 4 rfl).trans rfl
  have e8_6 : sg6 8 = I _ := (fr6 8 rfl).trans rfl
  refine CW.seq ?_
  refine CW.region ?_
  refine RL.val rfl (run_lss e9_6 e8_6) ?_
  refine RL.nil ?_
  refine CW.seq ?_
  refine CW.condP rfl (fun h8 => ?_) (fun h8 => ?_)
  · refine CW.skip ?_
    refine CW.seq ?_
    refine CW.block ?_
    refine CW.seq ?_
    refine CW.region ?_
    refine RL.val rfl (run_move e9_6) ?_
    refine RL.val rfl (run_assign (v := I _) rfl) ?_
    refine RL.nil ?_
    refine CW.seq ?_
    refine CW.region ?_
    refine RL.val rfl (run_ldRel Tryd.underlying34 rfl rfl e2_6 (hH6.blk (i := 0) rfl)) ?_
    refine RL.val rfl (run_move (v := I _) rfl) ?_
    refine RL.callP rfl hH6 (c_relate_row _ _ (by first | assumption | omega | (dsimp only at *; omega) | exact lst_at_bd (by assumption) (by assumption) | exact low_bd (lst_at (by assumption) (by assumption))) _) (run_call2 Tryd.call75 rfl rfl) ?_
    intro w9 hH10
    refine RL.val rfl (run_move e1_6) ?_
    refine RL.val rfl (run_andU rfl rfl) ?_
    refine RL.val rfl (run_neqU rfl (b := 0#64) rfl) ?_
    refine RL.nil ?_
    refine CW.condP rfl (fun h12 => ?_) (fun h12 => ?_)
    · refine CW.region ?_
      refine RL.val rfl (run_move e5_6) ?_
      refine RL.val rfl (run_move (v := I _) rfl) ?_
      refine RL.callP rfl hH10 (c_mask_With _ _  _) (run_call2 Tryd.call90 rfl rfl) ?_
      intro w13 hH14
      refine RL.val rfl (run_assign (v := U _) rfl) ?_
      refine RL.nil ?_
      refine CW.region ?_
      refine RL.val rfl (run_add e9_6 rfl (by omega)) ?_
      refine RL.val rfl (run_move (v := I _) rfl) ?_
      refine RL.nil ?_
      refine ⟨k + 1, ?_, ((((((((((((((fr6.u rfl).u rfl).u rfl).u rfl).u rfl).u rfl).u rfl).u rfl).u rfl).u rfl).u rfl).u rfl).u rfl).u rfl).u rfl, hH14, (congrArg U (by first | exact down_yes h0 (by omega) ‹_› | exact down_not h0 ‹_›)), (congrArg I (by first | rfl | omega)), ?_, ?_⟩
      · ((try dsimp only); omega)
      · omega
      · omega
    · refine CW.skip ?_
      refine CW.region ?_
      refine RL.val rfl (run_add e9_6 rfl (by omega)) ?_
      refine RL.val rfl (run_move (v := I _) rfl) ?_
      refine RL.nil ?_
      refine ⟨k + 1, ?_, ((((((((((fr6.u rfl).u rfl).u rfl).u rfl).u rfl).u rfl).u rfl).u rfl).u rfl).u rfl).u rfl, hH10, (Eq.trans e5_6 (congrArg U (by first | exact down_yes h0 (by omega) ‹_› | exact down_not h0 ‹_›))), (congrArg I (by first | rfl | omega)), ?_, ?_⟩
      · ((try dsimp only); omega)
      · omega
      · omega
  · refine CW.exit (id := 0) rfl ?_
    refine CW.seq ?_
    refine CW.region ?_
    refine RL.val rfl (run_move e5_6) ?_
    refine RL.val rfl (run_assign (v := U _) rfl) ?_
    refine RL.nil ?_
    refine CW.ret ?_
    refine outP1 Tryd.results81 (congrArg U ?_) hH6.below
    (rw [show k = pts r by omega]; rfl)

theorem c_clearanceref03_Plain (r : Rl) (w : World) : Calls Tryd.prog 30 #[.agg (relC r)] w (Pure (.agg (relC (plainR r))) w) := by
  have hp := pts_bd r
  refine enter Tryd.func30 rfl Tryd.ntmps30 rfl ?_
  have hH := Hp.start w
  refine CW.seq ?_
  refine CW.region ?_
  refine RL.new rfl hH (f := fun b => (.pointer (some ⟨b, 0, none⟩))) (run_box (v := .agg _) rfl) ?_
  intro b3 w1 hH2
  refine RL.new rfl hH2 (f := fun b => (.pointer (some ⟨b, 0, none⟩))) (run_alloc zero_rel) ?_
  intro b6 w4 hH5
  refine RL.nil ?_
  refine CW.seq ?_
  refine CW.region ?_
  refine RL.val rfl (run_ldRel Tryd.underlying34 rfl rfl rfl (hH5.blk (i := 1) rfl)) ?_
  refine RL.callP rfl hH5 (c_clearanceref03_Points _  _) (run_call1 Tryd.call47 rfl) ?_
  intro w7 hH8
  refine RL.val rfl (run_bld (vs := [(0, I _)]) rfl (built_rel _)) ?_
  refine RL.new rfl hH8 (f := fun b => (.pointer (some ⟨b, 0, none⟩))) (run_alloc zero_rel) ?_
  intro b11 w9 hH10
  refine RL.set hH10 (i := 0) rfl (run_stRel rfl rfl rfl (hH10.blk (i := 0) rfl)) ?_
  intro w12 hH13
  simp only [List.set_cons_zero, List.set_cons_succ] at hH13
  refine RL.nil ?_
  refine CW.seq ?_
  refine CW.seq ?_
  refine CW.region ?_
  refine RL.val rfl (run_assign (v := I 0) rfl) ?_
  refine RL.nil ?_
  refine CW.block ?_
  have hz : (⟨pts r, fun _ => 0#64⟩ : Rl).n = pts r := rfl
  refine CW.loop (G := (Int) × (Rl)) (fun (⟨k, r1⟩ : (Int) × (Rl)) s' w' => (Fr [4, 5, 6, 10, 11, 12, 13, 14, 15, 16, 17, 18, 19, 20, 21, 22, 23, 24, 25, 26, 27, 28, 29, 30, 31, 32, 33, 34] _ s') ∧ (Hp w w' (.blk b11 (.cells (relC r1) 34 (0, 0)) :: _)) ∧ (s' 4 = I k) ∧ (0 ≤ k) ∧ (k ≤ pts r) ∧ (r1 = fillR (pts r) (fun i => rowR r i) k)) (fun (⟨k, r1⟩ : (Int) × (Rl)) => (pts r - k).toNat) ((0, ⟨pts r, fun _ => 0#64⟩)) ⟨Fr.refl _ _, hH13, rfl, (by omega), (by omega), fill_zero _ _⟩ ?_
  rintro ⟨k, r1⟩ sg14 w14 ⟨fr14, hH14, e4_14, h0, hk, hr⟩
  have e1_14 : sg14 1 = .pointer (some ⟨_, _, none⟩) := (fr14 1 rfl).trans rfl
  have e2_14 : sg14 2 = .pointer (some ⟨_, _, none⟩) := (fr14 2 rfl).trans rfl
  have e3_14 : sg14 3 = .pointer (some ⟨_, _, none⟩) := (fr14 3 rfl).trans rfl
  have hn : r1.n = pts r := by rw [hr]; rfl
  refine CW.seq ?_
  refine CW.seq ?_
  refine CW.region ?_
  refine RL.val rfl (run_move e4_14) ?_
  refine RL.val rfl (run_fieldAddr Tryd.underlying34 rfl (off := 0) rfl Tryd.sizeOf3 (by decide) e3_14) ?_
  refine RL.val rfl (run_ld Tryd.underlying3 rfl rfl (hH14.cell (i := 0) rfl (relC_N _))) ?_
  refine RL.val rfl (run_lss rfl rfl) ?_
  refine RL.nil ?_
  refine CW.condP rfl (fun h16 => ?_) (fun h16 => ?_)
  · refine CW.skip ?_
    refine CW.seq ?_
    refine CW.block ?_
    refine CW.seq ?_
    refine CW.region ?_
    refine RL.val rfl (run_assign (v := .slice none 0 0) rfl) ?_
    have hH17 := hH14.nilRow 3 1
    refine RL.nil ?_
    refine CW.seq ?_
    refine CW.seq ?_
    refine CW.region ?_
    refine RL.val rfl (run_assign (v := I 0) rfl) ?_
    refine RL.nil ?_
    refine CW.block ?_
    refine CW.loop (G := (Int) × (List Int) × (Value)) (fun (⟨j, l, v5⟩ : (Int) × (List Int) × (Value)) s' w' => (Fr [5, 6, 16, 17, 18, 19, 20, 21, 22, 23, 24, 25, 26, 27, 28, 29] _ s') ∧ (Hp w w' (.row v5 3 1 (l.length) (l.map I) :: _)) ∧ (s' 5 = v5) ∧ (s' 6 = I j) ∧ (0 ≤ j) ∧ (j ≤ pts r) ∧ (l = aboveTo r k j)) (fun (⟨j, l, v5⟩ : (Int) × (List Int) × (Value)) => (pts r - j).toNat) ((0, [], (.slice none 0 0 : Value))) ⟨Fr.refl _ _, hH17, rfl, rfl, (by omega), (by omega), rfl⟩ ?_
    rintro ⟨j, l, v5⟩ sg18 w18 ⟨fr18, hH18, e5_18, e6_18, j0, j1, hl⟩
    have e1_18 := (fr18 1 rfl).trans e1_14
    have e2_18 := (fr18 2 rfl).trans e2_14
    have e3_18 := (fr18 3 rfl).trans e3_14
    have e4_18 := (fr18 4 rfl).trans e4_14
    have e10_18 : sg18 10 = I _ := (fr18 10 rfl).trans rfl
    have e11_18 : sg18 11 = .pointer (some ⟨_, _, none⟩) := (fr18 11 rfl).trans rfl
    have e12_18 : sg18 12 = I _ := (fr18 12 rfl).trans rfl
    have e13_18 : sg18 13 = B _ := (fr18 13 rfl).trans rfl
    refine CW.seq ?_
    refine CW.seq ?_
    refine CW.region ?_
    refine RL.val rfl (run_move e6_18) ?_
    refine RL.val rfl (run_fieldAddr Tryd.underlying34 rfl (off := 0) rfl Tryd.sizeOf3 (by decide) e3_18) ?_
    refine RL.val rfl (run_ld Tryd.underlying3 rfl rfl (hH18.cell (i := 1) rfl (relC_N _))) ?_
    refine RL.val rfl (run_lss rfl rfl) ?_
    refine RL.nil ?_
    refine CW.condP rfl (fun h20 => ?_) (fun h20 => ?_)
    · refine CW.skip ?_
      refine CW.seq ?_
      refine CW.block ?_
      refine CW.seq ?_
      refine CW.region ?_
      refine RL.val rfl (run_ldRel Tryd.underlying34 rfl rfl e1_18 (hH18.blk (i := 3) rfl)) ?_
      refine RL.val rfl (run_move e4_18) ?_
      refine RL.val rfl (run_move e6_18) ?_
      refine RL.callP rfl hH18 (c_clearanceref03_Has _ _ _  _) (run_call3 Tryd.call48 rfl rfl rfl) ?_
      intro w21 hH22
      refine RL.nil ?_
      refine CW.cond rfl (fun h24 => ?_) (fun h24 => ?_)
      · refine CW.region ?_
        refine RL.val rfl (run_move e5_18) ?_
        refine RL.val rfl (run_move e6_18) ?_
        refine RL.new rfl hH22 (f := fun b => (.slice (some ⟨b, 0, none⟩) 1 1)) (run_mkL Tryd.underlying74 rfl rfl (sz := 1) (vs := [I _]) rfl rfl (by decide) (by decide) rfl rfl) ?_
        intro b27 w25 hH26
        (try simp only [List.flatMap_cons, List.flatMap_nil, clI, clB, clS, clP, clL, clA, List.append_nil, List.cons_append, List.nil_append] at hH26)
        refine RL.app rfl hH26 (i := 1) rfl (hH26.slBlk (i := 0) (n := 1) (sz := 1) rfl rfl (by decide)) rfl rfl Tryd.underlying74 rfl rfl (size := 1) (bytes := 8) rfl rfl rfl (by decide) (by simp [Value.oneCell']) (by have := @above_len r k j; rw [← hl] at this; omega) (by have := @above_len r k j; rw [← hl] at this; simp only [maxLen]; omega) ?_
        intro v28 w29 hH30
        simp only [List.set_cons_zero, List.set_cons_succ] at hH30
        refine RL.val rfl (run_assign (by conv => lhs; whnf)) ?_
        refine RL.nil ?_
        refine CW.region ?_
        refine RL.val rfl (run_move e6_18) ?_
        refine RL.val rfl (run_add rfl rfl (by omega)) ?_
        refine RL.val rfl (run_assign (v := I _) rfl) ?_
        refine RL.nil ?_
        refine ⟨(j + 1, l ++ [j], v28), ?_, (((((((((((((((fr18.u rfl).u rfl).u rfl).u rfl).u rfl).u rfl).u rfl).u rfl).u rfl).u rfl).u rfl).u rfl).u rfl).u rfl).u rfl).u rfl, (Hp.conv (hH30.sub (.cons _ (List.Sublist.refl _))) (by first | rfl | simp)), rfl, (congrArg I (by first | rfl | omega)), ?_, ?_, ?_⟩
        · ((try dsimp only); omega)
        · omega
        · omega
        · first | (rw [hl]; exact above_yes j0 ‹_›) | (rw [hl]; exact above_not j0 ‹_›)
      · refine CW.skip ?_
        refine CW.region ?_
        refine RL.val rfl (run_move e6_18) ?_
        refine RL.val rfl (run_add rfl rfl (by omega)) ?_
        refine RL.val rfl (run_assign (v := I _) rfl) ?_
        refine RL.nil ?_
        refine ⟨(j + 1, l, v5), ?_, ((((((((((fr18.u rfl).u rfl).u rfl).u rfl).u rfl).u rfl).u rfl).u rfl).u rfl).u rfl).u rfl, (Hp.conv hH22 (by first | rfl | simp)), e5_18, (congrArg I (by first | rfl | omega)), ?_, ?_, ?_⟩
        · ((try dsimp only); omega)
        · omega
        · omega
        · first | (rw [hl]; exact above_yes j0 ‹_›) | (rw [hl]; exact above_not j0 ‹_›)
    · refine CW.exit (id := 2) rfl ?_
      refine CW.region ?_
      refine RL.val rfl (run_move e4_18) ?_
      refine RL.val rfl (run_move e5_18) ?_
      refine RL.callP rfl hH18 (c_clearanceref01_Of _ _  _ (hH18.sl (i := 0) rfl)) (run_call1 Tryd.call49 rfl) ?_
      intro w31 hH32
      refine RL.val rfl (run_fieldAddr Tryd.underlying34 rfl (off := 1) rfl Tryd.sizeOf32 (by decide) e3_18) ?_
      refine RL.val rfl (run_indexAddrA Tryd.underlying32 Tryd.sizeOf31 rfl rfl (by first | omega | (dsimp only at *; omega))) ?_
      refine RL.set hH32 (i := 1) rfl (run_st rfl rfl (v := U _) rfl rfl rfl (hH32.blk (i := 1) rfl) (by rw [relC_size]; omega)) ?_
      intro w33 hH34
      simp only [List.set_cons_zero, List.set_cons_succ] at hH34
      rw [relC_put] at hH34
      refine RL.nil ?_
      refine CW.region ?_
      refine RL.val rfl (run_move e4_18) ?_
      refine RL.val rfl (run_add rfl rfl (by omega)) ?_
      refine RL.val rfl (run_assign (v := I _) rfl) ?_
      refine RL.nil ?_
      refine ⟨(k + 1, _), ?_, (((((((((((((((((((fr14.u rfl).u rfl).u rfl).u rfl).u rfl).u rfl).t fr18 rfl)).u rfl).u rfl).u rfl).u rfl).u rfl).u rfl).u rfl).u rfl).u rfl).u rfl).u rfl).u rfl, (hH34.sub (.cons _ (List.Sublist.refl _))), (congrArg I (by first | rfl | omega)), ?_, ?_, ?_⟩
      · ((try dsimp only); omega)
      · omega
      · omega
      · rw [hr]; exact fill_put h0 (by rw [Int.toNat_of_nonneg h0, hl, show j = pts r by omega]; exact above_row ⟨h0, by omega⟩)
  · refine CW.exit (id := 0) rfl ?_
    refine CW.seq ?_
    refine CW.region ?_
    refine RL.val rfl (run_ldRel Tryd.underlying34 rfl rfl e3_14 (hH14.blk (i := 0) rfl)) ?_
    refine RL.set hH14 (i := 1) rfl (run_stRel rfl e2_14 rfl (hH14.blk (i := 1) rfl)) ?_
    intro w35 hH36
    simp only [List.set_cons_zero, List.set_cons_succ] at hH36
    refine RL.nil ?_
    refine CW.ret ?_
    refine outC Tryd.results30 e2_14 hH36 (i := 1) rfl Tryd.underlying34 rfl rfl ⟨?_, hH36.below⟩
    (rw [hr, show k = pts r by omega]; rfl)

theorem c_relate_Closure (r : Rl) (w : World) : Calls Tryd.prog 76 #[.agg (relC r)] w (Pure (.agg (relC (cloR r))) w) := by
  have hp := pts_bd r
  have hn0 : (plainR r).n = pts r := rfl
  refine enter Tryd.func76 rfl Tryd.ntmps76 rfl ?_
  have hH := Hp.start w
  refine CW.seq ?_
  refine CW.region ?_
  refine RL.new rfl hH (f := fun b => (.pointer (some ⟨b, 0, none⟩))) (run_box (v := .agg _) rfl) ?_
  intro b3 w1 hH2
  refine RL.new rfl hH2 (f := fun b => (.pointer (some ⟨b, 0, none⟩))) (run_alloc zero_rel) ?_
  intro b6 w4 hH5
  refine RL.nil ?_
  refine CW.seq ?_
  refine CW.region ?_
  refine RL.val rfl (run_ldRel Tryd.underlying34 rfl rfl rfl (hH5.blk (i := 1) rfl)) ?_
  refine RL.callP rfl hH5 (c_relate_plain _  _) (run_call1 Tryd.call52 rfl) ?_
  intro w7 hH8
  refine RL.new rfl hH8 (f := fun b => (.pointer (some ⟨b, 0, none⟩))) (run_alloc zero_rel) ?_
  intro b11 w9 hH10
  refine RL.set hH10 (i := 0) rfl (run_stRel rfl rfl rfl (hH10.blk (i := 0) rfl)) ?_
  intro w12 hH13
  simp only [List.set_cons_zero, List.set_cons_succ] at hH13
  refine RL.nil ?_
  refine CW.seq ?_
  refine CW.seq ?_
  refine CW.region ?_
  refine RL.val rfl (run_fieldAddr Tryd.underlying34 rfl (off := 0) rfl Tryd.sizeOf3 (by decide) rfl) ?_
  refine RL.val rfl (run_ld Tryd.underlying3 rfl rfl (hH13.cell (i := 0) rfl (relC_N _))) ?_
  refine RL.val rfl (run_move (v := I 0) rfl) ?_
  refine RL.nil ?_
  refine CW.block ?_
  refine CW.loop (G := (Int) × (Rl)) (fun (⟨k, r1⟩ : (Int) × (Rl)) s' w' => (Fr [4, 11, 12, 13, 14, 15, 16, 17, 18, 19, 20, 21, 22, 23] _ s') ∧ (Hp w w' (.blk b11 (.cells (relC r1) 34 (0, 0)) :: _)) ∧ (s' 11 = I k) ∧ (0 ≤ k) ∧ (k ≤ pts r) ∧ (r1 = ⟨pts r, selfTo (plainR r).up k⟩)) (fun (⟨k, r1⟩ : (Int) × (Rl)) => (pts r - k).toNat) ((0, plainR r)) ⟨Fr.refl _ _, hH13, rfl, (by omega), (by omega), self_zero _ _⟩ ?_
  rintro ⟨k, r1⟩ sg14 w14 ⟨fr14, hH14, e11_14, h0, hk, hr⟩
  have e2_14 : sg14 2 = .pointer (some ⟨_, _, none⟩) := (fr14 2 rfl).trans rfl
  have e3_14 : sg14 3 = .pointer (some ⟨_, _, none⟩) := (fr14 3 rfl).trans rfl
  have e10_14 : sg14 10 = I _ := (fr14 10 rfl).trans rfl
  have hn : r1.n = pts r := by rw [hr]
  refine CW.seq ?_
  refine CW.region ?_
  refine RL.val rfl (run_lss e11_14 e10_14) ?_
  refine RL.nil ?_
  refine CW.seq ?_
  refine CW.condP rfl (fun h16 => ?_) (fun h16 => ?_)
  · refine CW.skip ?_
    refine CW.seq ?_
    refine CW.block ?_
    refine CW.seq ?_
    refine CW.region ?_
    refine RL.val rfl (run_move e11_14) ?_
    refine RL.val rfl (run_assign (v := I _) rfl) ?_
    refine RL.nil ?_
    refine CW.region ?_
    refine RL.val rfl (run_move (v := I _) rfl) ?_
    refine RL.val rfl (run_move (v := I _) rfl) ?_
    refine RL.val rfl (run_fieldAddr Tryd.underlying34 rfl (off := 1) rfl Tryd.sizeOf32 (by decide) e3_14) ?_
    refine RL.val rfl (run_indexAddrA Tryd.underlying32 Tryd.sizeOf31 rfl rfl (by first | omega | (dsimp only at *; omega))) ?_
    refine RL.val rfl (run_ld Tryd.underlying31 rfl rfl (hH14.cell (i := 0) rfl (relC_up _ (by omega)))) ?_
    refine RL.val rfl (run_move (v := I _) rfl) ?_
    refine RL.callP rfl hH14 (c_mask_With _ _  _) (run_call2 Tryd.call90 rfl rfl) ?_
    intro w17 hH18
    refine RL.val rfl (run_fieldAddr Tryd.underlying34 rfl (off := 1) rfl Tryd.sizeOf32 (by decide) e3_14) ?_
    refine RL.val rfl (run_indexAddrA Tryd.underlying32 Tryd.sizeOf31 rfl rfl (by first | omega | (dsimp only at *; omega))) ?_
    refine RL.set hH18 (i := 0) rfl (run_st rfl rfl (v := U _) rfl rfl rfl (hH18.blk (i := 0) rfl) (by rw [relC_size]; omega)) ?_
    intro w19 hH20
    simp only [List.set_cons_zero, List.set_cons_succ] at hH20
    rw [relC_put] at hH20
    refine RL.nil ?_
    refine CW.region ?_
    refine RL.val rfl (run_add e11_14 rfl (by omega)) ?_
    refine RL.val rfl (run_move (v := I _) rfl) ?_
    refine RL.nil ?_
    refine ⟨(k + 1, _), ?_, (((((((((((((fr14.u rfl).u rfl).u rfl).u rfl).u rfl).u rfl).u rfl).u rfl).u rfl).u rfl).u rfl).u rfl).u rfl).u rfl, hH20, (congrArg I (by first | rfl | omega)), ?_, ?_, ?_⟩
    · ((try dsimp only); omega)
    · omega
    · omega
    · rw [hr]; exact self_put h0
  · refine CW.exit (id := 0) rfl ?_
    refine CW.seq ?_
    refine CW.seq ?_
    refine CW.region ?_
    refine RL.val rfl (run_fieldAddr Tryd.underlying34 rfl (off := 0) rfl Tryd.sizeOf3 (by decide) e3_14) ?_
    refine RL.val rfl (run_ld Tryd.underlying3 rfl rfl (hH14.cell (i := 0) rfl (relC_N _))) ?_
    refine RL.val rfl (run_move (v := I 0) rfl) ?_
    refine RL.nil ?_
    refine CW.block ?_
    refine CW.loop (G := (Int) × (Rl)) (fun (⟨m, r2⟩ : (Int) × (Rl)) s' w' => (Fr [5, 6, 26, 27, 28, 29, 30, 31, 32, 33, 34, 35, 36, 37, 38, 39, 40, 41, 42, 43, 44, 45, 46, 47, 48, 49, 50, 51, 52] _ s') ∧ (Hp w w' (.blk b11 (.cells (relC r2) 34 (0, 0)) :: _)) ∧ (s' 26 = I m) ∧ (0 ≤ m) ∧ (m ≤ pts r) ∧ (r2 = ⟨pts r, wall (pts r) (selfTo (plainR r).up (pts r)) m.toNat⟩)) (fun (⟨m, r2⟩ : (Int) × (Rl)) => (pts r - m).toNat) ((0, r1)) ⟨Fr.refl _ _, hH14, rfl, (by omega), (by omega), (by rw [hr, show k = pts r by omega]; rfl)⟩ ?_
    rintro ⟨m, r2⟩ sg21 w21 ⟨fr21, hH21, e26_21, m0, m1, hr2⟩
    have e2_21 := (fr21 2 rfl).trans e2_14
    have e3_21 := (fr21 3 rfl).trans e3_14
    have e25_21 : sg21 25 = I _ := (fr21 25 rfl).trans rfl
    have hn2 : r2.n = pts r := by rw [hr2]
    refine CW.seq ?_
    refine CW.region ?_
    refine RL.val rfl (run_lss e26_21 e25_21) ?_
    refine RL.nil ?_
    refine CW.seq ?_
    refine CW.condP rfl (fun h23 => ?_) (fun h23 => ?_)
    · refine CW.skip ?_
      refine CW.seq ?_
      refine CW.block ?_
      refine CW.seq ?_
      refine CW.region ?_
      refine RL.val rfl (run_move e26_21) ?_
      refine RL.val rfl (run_assign (v := I _) rfl) ?_
      refine RL.nil ?_
      refine CW.seq ?_
      refine CW.region ?_
      refine RL.val rfl (run_fieldAddr Tryd.underlying34 rfl (off := 0) rfl Tryd.sizeOf3 (by decide) e3_21) ?_
      refine RL.val rfl (run_ld Tryd.underlying3 rfl rfl (hH21.cell (i := 0) rfl (relC_N _))) ?_
      refine RL.val rfl (run_move (v := I 0) rfl) ?_
      refine RL.nil ?_
      refine CW.block ?_
      refine CW.loop (G := (Int) × (Rl)) (fun (⟨i, r3⟩ : (Int) × (Rl)) s' w' => (Fr [6, 31, 32, 33, 34, 35, 36, 37, 38, 39, 40, 41, 42, 43, 44, 45, 46, 47, 48, 49, 50, 51] _ s') ∧ (Hp w w' (.blk b11 (.cells (relC r3) 34 (0, 0)) :: _)) ∧ (s' 31 = I i) ∧ (0 ≤ i) ∧ (i ≤ pts r) ∧ (r3 = ⟨pts r, passTo m.toNat i r2.up⟩)) (fun (⟨i, r3⟩ : (Int) × (Rl)) => (pts r - i).toNat) ((0, r2)) ⟨Fr.refl _ _, hH21, rfl, (by omega), (by omega), (by rw [hr2]; exact pass_zero _ _ _)⟩ ?_
      rintro ⟨i, r3⟩ sg24 w24 ⟨fr24, hH24, e31_24, i0, i1, hr3⟩
      have e2_24 := (fr24 2 rfl).trans e2_21
      have e3_24 := (fr24 3 rfl).trans e3_21
      have e5_24 : sg24 5 = I _ := (fr24 5 rfl).trans rfl
      have e25_24 := (fr24 25 rfl).trans e25_21
      have e26_24 := (fr24 26 rfl).trans e26_21
      have e27_24 : sg24 27 = B _ := (fr24 27 rfl).trans rfl
      have e28_24 : sg24 28 = I _ := (fr24 28 rfl).trans rfl
      have e29_24 : sg24 29 = .pointer (some ⟨_, _, none⟩) := (fr24 29 rfl).trans rfl
      have e30_24 : sg24 30 = I _ := (fr24 30 rfl).trans rfl
      have hn3 : r3.n = pts r := by rw [hr3]
      refine CW.seq ?_
      refine CW.region ?_
      refine RL.val rfl (run_lss e31_24 e30_24) ?_
      refine RL.nil ?_
      refine CW.seq ?_
      refine CW.condP rfl (fun h26 => ?_) (fun h26 => ?_)
      · refine CW.skip ?_
        refine CW.seq ?_
        refine CW.block ?_
        refine CW.seq ?_
        refine CW.region ?_
        refine RL.val rfl (run_move e31_24) ?_
        refine RL.val rfl (run_assign (v := I _) rfl) ?_
        refine RL.nil ?_
        refine CW.seq ?_
        refine CW.region ?_
        refine RL.val rfl (run_move (v := I _) rfl) ?_
        refine RL.val rfl (run_fieldAddr Tryd.underlying34 rfl (off := 1) rfl Tryd.sizeOf32 (by decide) e3_24) ?_
        refine RL.val rfl (run_indexAddrA Tryd.underlying32 Tryd.sizeOf31 rfl rfl (by first | omega | (dsimp only at *; omega))) ?_
        refine RL.val rfl (run_ld Tryd.underlying31 rfl rfl (hH24.cell (i := 0) rfl (relC_up _ (by omega)))) ?_
        refine RL.val rfl (run_move e5_24) ?_
        refine RL.callP rfl hH24 (c_mask_Has _ _  _) (run_call2 Tryd.call91 rfl rfl) ?_
        intro w27 hH28
        refine RL.nil ?_
        refine CW.cond rfl (fun h30 => ?_) (fun h30 => ?_)
        · refine CW.regionS (by kernel_rfl) hH28 (.cons _ (List.Sublist.refl _)) ?_
          intro w31 hH32
          refine AN.take 0 rfl rfl (by kernel_rfl) (by kernel_rfl) (by kernel_rfl) (hH32.sub (.cons _ (List.Sublist.refl _))) (fun w hS => run_move (v := I _) rfl) ?_
          refine AN.take 1 rfl rfl (by kernel_rfl) (by kernel_rfl) (by kernel_rfl) (hH32.sub (.cons _ (List.Sublist.refl _))) (fun w hS => run_fieldAddr Tryd.underlying34 rfl (off := 1) rfl Tryd.sizeOf32 (by decide) e3_24) ?_
          refine AN.take 2 rfl rfl (by kernel_rfl) (by kernel_rfl) (by kernel_rfl) (hH32.sub (.cons _ (List.Sublist.refl _))) (fun w hS => run_indexAddrA Tryd.underlying32 Tryd.sizeOf31 rfl rfl (by first | omega | (dsimp only at *; omega))) ?_
          refine AN.take 4 rfl rfl (by kernel_rfl) (by kernel_rfl) (by kernel_rfl) (hH32.sub (.cons _ (List.Sublist.refl _))) (fun w hS => run_move e5_24) ?_
          refine AN.take 5 rfl rfl (by kernel_rfl) (by kernel_rfl) (by kernel_rfl) (hH32.sub (.cons _ (List.Sublist.refl _))) (fun w hS => run_fieldAddr Tryd.underlying34 rfl (off := 1) rfl Tryd.sizeOf32 (by decide) e3_24) ?_
          refine AN.take 6 rfl rfl (by kernel_rfl) (by kernel_rfl) (by kernel_rfl) (hH32.sub (.cons _ (List.Sublist.refl _))) (fun w hS => run_indexAddrA Tryd.underlying32 Tryd.sizeOf31 rfl rfl (by first | omega | (dsimp only at *; omega))) ?_
          refine AN.take 9 rfl rfl (by kernel_rfl) (by kernel_rfl) (by kernel_rfl) (hH32.sub (.cons _ (List.Sublist.refl _))) (fun w hS => run_fieldAddr Tryd.underlying34 rfl (off := 1) rfl Tryd.sizeOf32 (by decide) e3_24) ?_
          refine AN.two 3 7 (by kernel_rfl) ?_ ?_
          · refine AO.read rfl gnone rfl hH32 (.cons _ (List.Sublist.refl _)) (run_ld Tryd.underlying31 rfl rfl (hH32.cell (i := 0) rfl (relC_up _ (by omega)))) ?_
            refine AN.one 7 (by kernel_rfl) ?_
            refine AO.read rfl gnone rfl hH32 (.cons _ (List.Sublist.refl _)) (run_ld Tryd.underlying31 rfl rfl (hH32.cell (i := 0) rfl (relC_up _ (by omega)))) ?_
            refine AN.take 8 rfl rfl (by kernel_rfl) (by kernel_rfl) (by kernel_rfl) (hH32.sub (.cons _ (List.Sublist.refl _))) (fun w hS => run_orU rfl rfl) ?_
            refine AN.take 10 rfl rfl (by kernel_rfl) (by kernel_rfl) (by kernel_rfl) (hH32.sub (.cons _ (List.Sublist.refl _))) (fun w hS => run_indexAddrA Tryd.underlying32 Tryd.sizeOf31 rfl rfl (by first | omega | (dsimp only at *; omega))) ?_
            refine AN.one 11 (by kernel_rfl) ?_
            refine AO.set rfl gnone hH32 (j := 0) rfl (.cons _ (List.Sublist.refl _)) (run_st rfl rfl (v := U _) rfl rfl rfl (hH32.blk (i := 0) rfl) (by rw [relC_size]; omega)) ?_
            intro w39 hH40
            simp only [List.set_cons_zero, List.set_cons_succ] at hH40
            rw [relC_put] at hH40
            refine AN.done (by kernel_rfl) ?_
            refine CW.region ?_
            refine RL.val rfl (run_add e31_24 rfl (by omega)) ?_
            refine RL.val rfl (run_move (v := I _) rfl) ?_
            refine RL.nil ?_
            refine ⟨(i + 1, _), ?_, (((((((((((((((((((((fr24.u rfl).u rfl).u rfl).u rfl).u rfl).u rfl).u rfl).u rfl).u rfl).u rfl).u rfl).u rfl).u rfl).u rfl).u rfl).u rfl).u rfl).u rfl).u rfl).u rfl).u rfl).u rfl, hH40, (congrArg I (by first | rfl | omega)), ?_, ?_, ?_⟩
            · ((try dsimp only); omega)
            · omega
            · omega
            · first | (rw [hr3] at *; exact pass_yes m0 i0 ‹_›) | (rw [hr3] at *; exact pass_not ⟨m0, by omega⟩ i0 ‹_›)
          · refine AO.read rfl gnone rfl hH32 (.cons _ (List.Sublist.refl _)) (run_ld Tryd.underlying31 rfl rfl (hH32.cell (i := 0) rfl (relC_up _ (by omega)))) ?_
            refine AN.one 3 (by kernel_rfl) ?_
            refine AO.read rfl gnone rfl hH32 (.cons _ (List.Sublist.refl _)) (run_ld Tryd.underlying31 rfl rfl (hH32.cell (i := 0) rfl (relC_up _ (by omega)))) ?_
            refine AN.take 8 rfl rfl (by kernel_rfl) (by kernel_rfl) (by kernel_rfl) (hH32.sub (.cons _ (List.Sublist.refl _))) (fun w hS => run_orU rfl rfl) ?_
            refine AN.take 10 rfl rfl (by kernel_rfl) (by kernel_rfl) (by kernel_rfl) (hH32.sub (.cons _ (List.Sublist.refl _))) (fun w hS => run_indexAddrA Tryd.underlying32 Tryd.sizeOf31 rfl rfl (by first | omega | (dsimp only at *; omega))) ?_
            refine AN.one 11 (by kernel_rfl) ?_
            refine AO.set rfl gnone hH32 (j := 0) rfl (.cons _ (List.Sublist.refl _)) (run_st rfl rfl (v := U _) rfl rfl rfl (hH32.blk (i := 0) rfl) (by rw [relC_size]; omega)) ?_
            intro w47 hH48
            simp only [List.set_cons_zero, List.set_cons_succ] at hH48
            rw [relC_put] at hH48
            refine AN.done (by kernel_rfl) ?_
            refine CW.region ?_
            refine RL.val rfl (run_add e31_24 rfl (by omega)) ?_
            refine RL.val rfl (run_move (v := I _) rfl) ?_
            refine RL.nil ?_
            refine ⟨(i + 1, _), ?_, (((((((((((((((((((((fr24.u rfl).u rfl).u rfl).u rfl).u rfl).u rfl).u rfl).u rfl).u rfl).u rfl).u rfl).u rfl).u rfl).u rfl).u rfl).u rfl).u rfl).u rfl).u rfl).u rfl).u rfl).u rfl, hH48, (congrArg I (by first | rfl | omega)), ?_, ?_, ?_⟩
            · ((try dsimp only); omega)
            · omega
            · omega
            · first | (rw [hr3] at *; exact pass_yes m0 i0 ‹_›) | (rw [hr3] at *; exact pass_not ⟨m0, by omega⟩ i0 ‹_›)
        · refine CW.skip ?_
          refine CW.region ?_
          refine RL.val rfl (run_add e31_24 rfl (by omega)) ?_
          refine RL.val rfl (run_move (v := I _) rfl) ?_
          refine RL.nil ?_
          refine ⟨(i + 1, _), ?_, ((((((((((fr24.u rfl).u rfl).u rfl).u rfl).u rfl).u rfl).u rfl).u rfl).u rfl).u rfl).u rfl, hH28, (congrArg I (by first | rfl | omega)), ?_, ?_, ?_⟩
          · ((try dsimp only); omega)
          · omega
          · omega
          · first | (rw [hr3] at *; exact pass_yes m0 i0 ‹_›) | (rw [hr3] at *; exact pass_not ⟨m0, by omega⟩ i0 ‹_›)
      · refine CW.exit (id := 4) rfl ?_
        refine CW.region ?_
        refine RL.val rfl (run_add e26_24 rfl (by omega)) ?_
        refine RL.val rfl (run_move (v := I _) rfl) ?_
        refine RL.nil ?_
        refine ⟨(m + 1, _), ?_, ((((((((((fr21.u rfl).u rfl).u rfl).u rfl).u rfl).u rfl).t fr24 rfl)).u rfl).u rfl).u rfl, hH24, (congrArg I (by first | rfl | omega)), ?_, ?_, ?_⟩
        · ((try dsimp only); omega)
        · omega
        · omega
        · rw [hr3, hr2, show i = pts r by omega]; exact wall_next m0
    · refine CW.exit (id := 2) rfl ?_
      refine CW.seq ?_
      refine CW.region ?_
      refine RL.val rfl (run_ldRel Tryd.underlying34 rfl rfl e3_21 (hH21.blk (i := 0) rfl)) ?_
      refine RL.set hH21 (i := 1) rfl (run_stRel rfl e2_21 rfl (hH21.blk (i := 1) rfl)) ?_
      intro w49 hH50
      simp only [List.set_cons_zero, List.set_cons_succ] at hH50
      refine RL.nil ?_
      refine CW.ret ?_
      refine outC Tryd.results76 e2_21 hH50 (i := 1) rfl Tryd.underlying34 rfl rfl ⟨?_, hH50.below⟩
      (rw [hr2, show m = pts r by omega]; rfl)

theorem c_relate_Same (a b : Rl) (w : World) : Calls Tryd.prog 32 #[.agg (relC a), .agg (relC b)] w (Pure (B (decide ((plainR a).eq (plainR b)))) w) := by
  refine enter Tryd.func32 rfl Tryd.ntmps32 rfl ?_
  have hH := Hp.start w
  refine CW.seq ?_
  refine CW.region ?_
  refine RL.new rfl hH (f := fun b => (.pointer (some ⟨b, 0, none⟩))) (run_box (v := .agg _) rfl) ?_
  intro b3 w1 hH2
  refine RL.new rfl hH2 (f := fun b => (.pointer (some ⟨b, 0, none⟩))) (run_box (v := .agg _) rfl) ?_
  intro b6 w4 hH5
  refine RL.val rfl (run_assign (v := B false) rfl) ?_
  refine RL.nil ?_
  refine CW.seq ?_
  refine CW.regionD (by kernel_rfl) hH5 ?_
  intro w7 hH8
  refine AN.take 0 rfl rfl (by kernel_rfl) (by kernel_rfl) (by kernel_rfl) (hH8.sub (List.Sublist.refl _)) (fun w hS => run_ldRel Tryd.underlying34 rfl rfl rfl (hS.blk (i := 1) rfl)) ?_
  refine AN.take 2 rfl rfl (by kernel_rfl) (by kernel_rfl) (by kernel_rfl) (hH8.sub (List.Sublist.refl _)) (fun w hS => run_ldRel Tryd.underlying34 rfl rfl rfl (hS.blk (i := 0) rfl)) ?_
  refine AN.one 1 (by kernel_rfl) ?_
  refine AO.callP rfl gnone rfl hH8 (List.Sublist.refl _) (c_relate_plain _  _) (run_call1 Tryd.call52 rfl) ?_
  intro w9 hH10
  refine AN.one 3 (by kernel_rfl) ?_
  refine AO.callP rfl gnone rfl hH10 (List.Sublist.refl _) (c_relate_plain _  _) (run_call1 Tryd.call52 rfl) ?_
  intro w11 hH12
  refine AN.take 4 rfl rfl (by kernel_rfl) (by kernel_rfl) (by kernel_rfl) (hH12.sub (List.Sublist.refl _)) (fun w hS => run_eqlRel relT_fact rfl rfl) ?_
  refine AN.take 5 rfl rfl (by kernel_rfl) (by kernel_rfl) (by kernel_rfl) (hH12.sub (List.Sublist.refl _)) (fun w hS => run_assign (v := B _) rfl) ?_
  refine AN.done (by kernel_rfl) ?_
  refine CW.ret ?_
  refine outP1 Tryd.results32 (congrArg B ?_) hH12.below
  rfl

theorem c_clearanceref03_Same (a b : Rl) (w : World) : Calls Tryd.prog 20 #[.agg (relC a), .agg (relC b)] w (Pure (B (decide ((plainR a).eq (plainR b)))) w) := by
  refine enter Tryd.func20 rfl Tryd.ntmps20 rfl ?_
  have hH := Hp.start w
  refine CW.seq ?_
  refine CW.region ?_
  refine RL.new rfl hH (f := fun b => (.pointer (some ⟨b, 0, none⟩))) (run_box (v := .agg _) rfl) ?_
  intro b3 w1 hH2
  refine RL.new rfl hH2 (f := fun b => (.pointer (some ⟨b, 0, none⟩))) (run_box (v := .agg _) rfl) ?_
  intro b6 w4 hH5
  refine RL.val rfl (run_assign (v := B false) rfl) ?_
  refine RL.nil ?_
  refine CW.seq ?_
  refine CW.regionD (by kernel_rfl) hH5 ?_
  intro w7 hH8
  refine AN.take 0 rfl rfl (by kernel_rfl) (by kernel_rfl) (by kernel_rfl) (hH8.sub (List.Sublist.refl _)) (fun w hS => run_ldRel Tryd.underlying34 rfl rfl rfl (hS.blk (i := 1) rfl)) ?_
  refine AN.take 2 rfl rfl (by kernel_rfl) (by kernel_rfl) (by kernel_rfl) (hH8.sub (List.Sublist.refl _)) (fun w hS => run_ldRel Tryd.underlying34 rfl rfl rfl (hS.blk (i := 0) rfl)) ?_
  refine AN.one 1 (by kernel_rfl) ?_
  refine AO.callP rfl gnone rfl hH8 (List.Sublist.refl _) (c_clearanceref03_Plain _  _) (run_call1 Tryd.call30 rfl) ?_
  intro w9 hH10
  refine AN.one 3 (by kernel_rfl) ?_
  refine AO.callP rfl gnone rfl hH10 (List.Sublist.refl _) (c_clearanceref03_Plain _  _) (run_call1 Tryd.call30 rfl) ?_
  intro w11 hH12
  refine AN.take 4 rfl rfl (by kernel_rfl) (by kernel_rfl) (by kernel_rfl) (hH12.sub (List.Sublist.refl _)) (fun w hS => run_eqlRel relT_fact rfl rfl) ?_
  refine AN.take 5 rfl rfl (by kernel_rfl) (by kernel_rfl) (by kernel_rfl) (hH12.sub (List.Sublist.refl _)) (fun w hS => run_assign (v := B _) rfl) ?_
  refine AN.done (by kernel_rfl) ?_
  refine CW.ret ?_
  refine outP1 Tryd.results20 (congrArg B ?_) hH12.below
  rfl

theorem c_relate_Closed (r : Rl) (w : World) : Calls Tryd.prog 53 #[.agg (relC r)] w (Pure (B (decide ((plainR r).eq (cloR r)))) w) := by
  refine enter Tryd.func53 rfl Tryd.ntmps53 rfl ?_
  have hH := Hp.start w
  refine CW.seq ?_
  refine CW.region ?_
  refine RL.new rfl hH (f := fun b => (.pointer (some ⟨b, 0, none⟩))) (run_box (v := .agg _) rfl) ?_
  intro b3 w1 hH2
  refine RL.val rfl (run_assign (v := B false) rfl) ?_
  refine RL.nil ?_
  refine CW.seq ?_
  refine CW.regionD (by kernel_rfl) hH2 ?_
  intro w4 hH5
  refine AN.take 0 rfl rfl (by kernel_rfl) (by kernel_rfl) (by kernel_rfl) (hH5.sub (List.Sublist.refl _)) (fun w hS => run_ldRel Tryd.underlying34 rfl rfl rfl (hS.blk (i := 0) rfl)) ?_
  refine AN.take 2 rfl rfl (by kernel_rfl) (by kernel_rfl) (by kernel_rfl) (hH5.sub (List.Sublist.refl _)) (fun w hS => run_ldRel Tryd.underlying34 rfl rfl rfl (hS.blk (i := 0) rfl)) ?_
  refine AN.one 1 (by kernel_rfl) ?_
  refine AO.callP rfl gnone rfl hH5 (List.Sublist.refl _) (c_relate_plain _  _) (run_call1 Tryd.call52 rfl) ?_
  intro w6 hH7
  refine AN.one 3 (by kernel_rfl) ?_
  refine AO.callP rfl gnone rfl hH7 (List.Sublist.refl _) (c_relate_Closure _  _) (run_call1 Tryd.call76 rfl) ?_
  intro w8 hH9
  refine AN.take 4 rfl rfl (by kernel_rfl) (by kernel_rfl) (by kernel_rfl) (hH9.sub (List.Sublist.refl _)) (fun w hS => run_eqlRel relT_fact rfl rfl) ?_
  refine AN.take 5 rfl rfl (by kernel_rfl) (by kernel_rfl) (by kernel_rfl) (hH9.sub (List.Sublist.refl _)) (fun w hS => run_assign (v := B _) rfl) ?_
  refine AN.done (by kernel_rfl) ?_
  refine CW.ret ?_
  refine outP1 Tryd.results53 (congrArg B ?_) hH9.below
  rfl

theorem c_relate_New (n : Int) (w : World) : Calls Tryd.prog 61 #[I n] w (Pure (.agg (relC (newR n))) w) := by
  refine enter Tryd.func61 rfl Tryd.ntmps61 rfl ?_
  have hH := Hp.start w
  refine CW.seq ?_
  refine CW.region ?_
  refine RL.new rfl hH (f := fun b => (.pointer (some ⟨b, 0, none⟩))) (run_alloc zero_rel) ?_
  intro b3 w1 hH2
  refine RL.nil ?_
  refine CW.seq ?_
  refine CW.region ?_
  refine RL.val rfl (run_move (v := I _) rfl) ?_
  refine RL.val rfl (run_bld (vs := [(0, I _)]) rfl (built_rel _)) ?_
  refine RL.callP rfl hH2 (c_relate_points _  _) (run_call1 Tryd.call67 rfl) ?_
  intro w4 hH5
  refine RL.val rfl (run_bld (vs := [(0, I _)]) rfl (built_rel _)) ?_
  refine RL.set hH5 (i := 0) rfl (run_stRel rfl rfl rfl (hH5.blk (i := 0) rfl)) ?_
  intro w6 hH7
  simp only [List.set_cons_zero, List.set_cons_succ] at hH7
  refine RL.nil ?_
  refine CW.ret ?_
  refine outC Tryd.results61 rfl hH7 (i := 0) rfl Tryd.underlying34 rfl rfl ⟨?_, hH7.below⟩
  rfl

theorem c_relate_mutual (r : Rl) (i : Int) (w : World) (hT : Tab w) : Calls Tryd.prog 77 #[.agg (relC r), I i] w (Pure (U (mutualR r i)) w) := by
  refine enter Tryd.func77 rfl Tryd.ntmps77 rfl ?_
  have hH := Hp.start w
  refine CW.seq ?_
  refine CW.region ?_
  refine RL.new rfl hH (f := fun b => (.pointer (some ⟨b, 0, none⟩))) (run_box (v := .agg _) rfl) ?_
  intro b3 w1 hH2
  refine RL.val rfl (run_assign (v := U 0#64) rfl) ?_
  refine RL.nil ?_
  refine CW.seq ?_
  refine CW.region ?_
  refine RL.val rfl (run_move (v := I _) rfl) ?_
  refine RL.new rfl hH2 (f := fun b => (.slice (some ⟨b, 0, none⟩) 1 1)) (run_mkL Tryd.underlying74 rfl rfl (sz := 1) (vs := [I _]) rfl rfl (by decide) (by decide) rfl rfl) ?_
  intro b6 w4 hH5
  (try simp only [List.flatMap_cons, List.flatMap_nil, clI, clB, clS, clP, clL, clA, List.append_nil, List.cons_append, List.nil_append] at hH5)
  refine RL.callP rfl hH5 (c_mask_Of _ [i] _ (hH5.slBlk (i := 0) (n := 1) (sz := 1) rfl rfl (by decide))) (run_call1 Tryd.call78 rfl) ?_
  intro w7 hH8
  refine RL.val rfl (run_assign (v := U _) rfl) ?_
  refine RL.nil ?_
  refine CW.seq ?_
  refine CW.regionD (by kernel_rfl) hH8 ?_
  intro w9 hH10
  refine AN.take 0 rfl rfl (by kernel_rfl) (by kernel_rfl) (by kernel_rfl) (hH10.sub (List.Sublist.refl _)) (fun w hS => run_ldRel Tryd.underlying34 rfl rfl rfl (hS.blk (i := 1) rfl)) ?_
  refine AN.take 1 rfl rfl (by kernel_rfl) (by kernel_rfl) (by kernel_rfl) (hH10.sub (List.Sublist.refl _)) (fun w hS => run_move (v := U _) rfl) ?_
  refine AN.take 3 rfl rfl (by kernel_rfl) (by kernel_rfl) (by kernel_rfl) (hH10.sub (List.Sublist.refl _)) (fun w hS => run_ldRel Tryd.underlying34 rfl rfl rfl (hS.blk (i := 1) rfl)) ?_
  refine AN.take 4 rfl rfl (by kernel_rfl) (by kernel_rfl) (by kernel_rfl) (hH10.sub (List.Sublist.refl _)) (fun w hS => run_move (v := U _) rfl) ?_
  refine AN.one 2 (by kernel_rfl) ?_
  refine AO.callP rfl gnone rfl hH10 (List.Sublist.refl _) (c_relate_Up _ _  _ (hT.hp hH10)) (run_call2 Tryd.call79 rfl rfl) ?_
  intro w11 hH12
  refine AN.one 5 (by kernel_rfl) ?_
  refine AO.callP rfl gnone rfl hH12 (List.Sublist.refl _) (c_relate_Down _ _  _) (run_call2 Tryd.call81 rfl rfl) ?_
  intro w13 hH14
  refine AN.take 6 rfl rfl (by kernel_rfl) (by kernel_rfl) (by kernel_rfl) (hH14.sub (List.Sublist.refl _)) (fun w hS => run_andU rfl rfl) ?_
  refine AN.take 7 rfl rfl (by kernel_rfl) (by kernel_rfl) (by kernel_rfl) (hH14.sub (List.Sublist.refl _)) (fun w hS => run_assign (v := U _) rfl) ?_
  refine AN.done (by kernel_rfl) ?_
  refine CW.ret ?_
  refine outP1 Tryd.results77 (congrArg U ?_) hH14.below
  rfl

theorem c_relate_Order (r : Rl) (w : World) (hT : Tab w) : Calls Tryd.prog 54 #[.agg (relC r)] w (Pure (B (orderB r)) w) := by
  have hp := pts_bd r
  refine enter Tryd.func54 rfl Tryd.ntmps54 rfl ?_
  have hH := Hp.start w
  refine CW.seq ?_
  refine CW.region ?_
  refine RL.new rfl hH (f := fun b => (.pointer (some ⟨b, 0, none⟩))) (run_box (v := .agg _) rfl) ?_
  intro b3 w1 hH2
  refine RL.val rfl (run_assign (v := B false) rfl) ?_
  refine RL.nil ?_
  refine CW.seq ?_
  refine CW.seq ?_
  refine CW.region ?_
  refine RL.val rfl (run_ldRel Tryd.underlying34 rfl rfl rfl (hH2.blk (i := 0) rfl)) ?_
  refine RL.callP rfl hH2 (c_relate_Closed _  _) (run_call1 Tryd.call53 rfl) ?_
  intro w4 hH5
  refine RL.val rfl (run_notP rfl) ?_
  refine RL.nil ?_
  refine CW.condP rfl (fun h9 => ?_) (fun h9 => ?_)
  · refine CW.seq ?_
    refine CW.region ?_
    refine RL.val rfl (run_assign (v := B false) rfl) ?_
    refine RL.nil ?_
    refine CW.ret ?_
    refine outP1 Tryd.results54 (congrArg B ?_) hH5.below
    exact (order_no0 ‹_›).symm
  · refine CW.skip ?_
    refine CW.seq ?_
    refine CW.seq ?_
    refine CW.region ?_
    refine RL.val rfl (run_ldRel Tryd.underlying34 rfl rfl rfl (hH5.blk (i := 0) rfl)) ?_
    refine RL.callP rfl hH5 (c_relate_points _  _) (run_call1 Tryd.call67 rfl) ?_
    intro w10 hH11
    refine RL.val rfl (run_move (v := I 0) rfl) ?_
    refine RL.nil ?_
    refine CW.block ?_
    have hc := Decidable.of_not_not ‹¬ ¬ (plainR r).eq (cloR r)›
    refine CW.loop (G := (Int)) (fun (k : Int) s' w' => (Fr [2, 3, 9, 10, 11, 12, 13, 14, 15, 16, 17, 18, 19] _ s') ∧ (Hp w w' _) ∧ (s' 9 = I k) ∧ (0 ≤ k) ∧ (k ≤ pts r) ∧ (∀ j : Int, 0 ≤ j → j < k → mutualR r j = ofl [j])) (fun (k : Int) => (pts r - k).toNat) (0) ⟨Fr.refl _ _, hH11, rfl, (by omega), (by omega), fun j a b => absurd b (by omega)⟩ ?_
    rintro k sg12 w12 ⟨fr12, hH12, e9_12, h0, hk, hf⟩
    have e1_12 : sg12 1 = .pointer (some ⟨_, _, none⟩) := (fr12 1 rfl).trans rfl
    have e8_12 : sg12 8 = I _ := (fr12 8 rfl).trans rfl
    refine CW.seq ?_
    refine CW.region ?_
    refine RL.val rfl (run_lss e9_12 e8_12) ?_
    refine RL.nil ?_
    refine CW.seq ?_
    refine CW.condP rfl (fun h14 => ?_) (fun h14 => ?_)
    · refine CW.skip ?_
      refine CW.seq ?_
      refine CW.block ?_
      refine CW.seq ?_
      refine CW.region ?_
      refine RL.val rfl (run_move e9_12) ?_
      refine RL.val rfl (run_assign (v := I _) rfl) ?_
      refine RL.nil ?_
      refine CW.seq ?_
      refine CW.region ?_
      refine RL.val rfl (run_ldRel Tryd.underlying34 rfl rfl e1_12 (hH12.blk (i := 0) rfl)) ?_
      refine RL.val rfl (run_move (v := I _) rfl) ?_
      refine RL.callP rfl hH12 (c_relate_mutual _ _  _ (hT.hp hH12)) (run_call2 Tryd.call77 rfl rfl) ?_
      intro w15 hH16
      refine RL.val rfl (run_move (v := I _) rfl) ?_
      refine RL.new rfl hH16 (f := fun b => (.slice (some ⟨b, 0, none⟩) 1 1)) (run_mkL Tryd.underlying74 rfl rfl (sz := 1) (vs := [I _]) rfl rfl (by decide) (by decide) rfl rfl) ?_
      intro b19 w17 hH18
      (try simp only [List.flatMap_cons, List.flatMap_nil, clI, clB, clS, clP, clL, clA, List.append_nil, List.cons_append, List.nil_append] at hH18)
      refine RL.callP rfl hH18 (c_mask_Of _ [k] _ (hH18.slBlk (i := 0) (n := 1) (sz := 1) rfl rfl (by decide))) (run_call1 Tryd.call78 rfl) ?_
      intro w20 hH21
      refine RL.val rfl (run_neqU rfl rfl) ?_
      refine RL.nil ?_
      refine CW.condP rfl (fun h23 => ?_) (fun h23 => ?_)
      · refine CW.seq ?_
        refine CW.region ?_
        refine RL.val rfl (run_assign (v := B false) rfl) ?_
        refine RL.nil ?_
        refine CW.ret ?_
        refine outP1 Tryd.results54 (congrArg B ?_) hH21.below
        exact (order_no hc ⟨h0, by omega⟩ ‹_›).symm
      · refine CW.skip ?_
        refine CW.region ?_
        refine RL.val rfl (run_add e9_12 rfl (by omega)) ?_
        refine RL.val rfl (run_move (v := I _) rfl) ?_
        refine RL.nil ?_
        refine ⟨k + 1, ?_, (((((((((((fr12.u rfl).u rfl).u rfl).u rfl).u rfl).u rfl).u rfl).u rfl).u rfl).u rfl).u rfl).u rfl, (hH21.sub (.cons _ (List.Sublist.refl _))), (congrArg I (by first | rfl | omega)), ?_, ?_, ?_⟩
        · ((try dsimp only); omega)
        · omega
        · omega
        · exact fun j a b => if e : j = k then e ▸ Decidable.of_not_not ‹_› else hf j a (by omega)
    · refine CW.exit (id := 0) rfl ?_
      refine CW.seq ?_
      refine CW.region ?_
      refine RL.val rfl (run_assign (v := B true) rfl) ?_
      refine RL.nil ?_
      refine CW.ret ?_
      refine outP1 Tryd.results54 (congrArg B ?_) hH12.below
      exact (order_yes hc fun j a b => hf j a (by omega)).symm

theorem c_relate_Long (r : Rl) (w : World) (hT : Tab w) : Calls Tryd.prog 46 #[.agg (relC r)] w (Pure (.tuple #[I (longV r).1, B (longV r).2]) w) := by
  have hp := pts_bd r
  refine enter Tryd.func46 rfl Tryd.ntmps46 rfl ?_
  have hH := Hp.start w
  refine CW.seq ?_
  refine CW.region ?_
  refine RL.new rfl hH (f := fun b => (.pointer (some ⟨b, 0, none⟩))) (run_box (v := .agg _) rfl) ?_
  intro b3 w1 hH2
  refine RL.val rfl (run_assign (v := I 0) rfl) ?_
  refine RL.val rfl (run_assign (v := B false) rfl) ?_
  refine RL.nil ?_
  refine CW.seq ?_
  refine CW.seq ?_
  refine CW.region ?_
  refine RL.val rfl (run_ldRel Tryd.underlying34 rfl rfl rfl (hH2.blk (i := 0) rfl)) ?_
  refine RL.callP rfl hH2 (c_relate_Order _  _ (hT.hp hH2)) (run_call1 Tryd.call54 rfl) ?_
  intro w4 hH5
  refine RL.val rfl (run_not rfl) ?_
  refine RL.nil ?_
  refine CW.cond rfl (fun h8 => ?_) (fun h8 => ?_)
  · refine CW.seq ?_
    refine CW.region ?_
    refine RL.val rfl (run_assign (v := I 0) rfl) ?_
    refine RL.val rfl (run_assign (v := B false) rfl) ?_
    refine RL.nil ?_
    refine CW.ret ?_
    have hord : orderB r = false := nt ‹_›
    refine outP2 Tryd.results46 (congrArg I ?_) (congrArg B ?_) hH5.below <;> rw [longV, hord] <;> rfl
  · refine CW.skip ?_
    refine CW.seq ?_
    refine CW.region ?_
    refine RL.val rfl (run_ldRel Tryd.underlying34 rfl rfl rfl (hH5.blk (i := 0) rfl)) ?_
    refine RL.callP rfl hH5 (c_relate_points _  _) (run_call1 Tryd.call67 rfl) ?_
    intro w9 hH10
    refine RL.callP rfl hH10 (c_mask_Below _  _) (run_call1 Tryd.call38 rfl) ?_
    intro w11 hH12
    refine RL.val rfl (run_assign (v := U _) rfl) ?_
    refine RL.nil ?_
    refine CW.seq ?_
    refine CW.region ?_
    refine RL.val rfl (run_assign (v := I 0) rfl) ?_
    refine RL.nil ?_
    refine CW.block ?_
    have hord : orderB r = true := nf ‹_›
    refine CW.loop (G := (Int) × (BitVec 64)) (fun (⟨k, s⟩ : (Int) × (BitVec 64)) s' w' => (Fr [2, 3, 4, 5, 6, 8, 15, 16, 17, 18, 19, 20, 21, 22, 23, 24, 25, 26, 27, 28, 29, 30, 31, 32, 33, 34, 35, 36] _ s') ∧ (Hp w w' _) ∧ (s' 4 = U s) ∧ (s' 5 = I k) ∧ (0 ≤ k) ∧ ((lst s).length + k ≤ 64) ∧ (∀ j : Nat, s.getLsbD j = true → (j : Int) < pts r) ∧ (longF r (65 - k.toNat) s k = longF r 65 (below (pts r)) 0)) (fun (⟨k, s⟩ : (Int) × (BitVec 64)) => ((65 : Int) - k).toNat) ((0, below (pts r))) ⟨Fr.refl _ _, hH12, rfl, rfl, (by omega), (by have := lst_len (below (pts r)); omega), below_in, rfl⟩ ?_
    rintro ⟨k, s⟩ sg13 w13 ⟨fr13, hH13, e4_13, e5_13, k0, hl, hs, hF⟩
    have e1_13 : sg13 1 = .pointer (some ⟨_, _, none⟩) := (fr13 1 rfl).trans rfl
    refine CW.block ?_
    refine CW.seq ?_
    refine CW.region ?_
    refine RL.val rfl (run_assign (v := U 0#64) rfl) ?_
    refine RL.nil ?_
    refine CW.seq ?_
    refine CW.seq ?_
    refine CW.region ?_
    refine RL.val rfl (run_move e4_13) ?_
    refine RL.callR rfl hH13 (c_mask_List _  _ (hT.hp hH13)) (run_call1 Tryd.call68 rfl) ?_
    intro v16 w14 hH15
    refine RL.val rfl (run_lenSl (hH15.sl (i := 0) rfl) rfl Tryd.underlying74 rfl) ?_
    refine RL.val rfl (run_move (v := I 0) rfl) ?_
    refine RL.nil ?_
    refine CW.block ?_
    have hll := lst_len s
    refine CW.loop (G := (Int)) (fun (j : Int) s' w' => (Fr [6, 8, 18, 19, 20, 21, 22, 23, 24, 25, 26, 27] _ s') ∧ (Hp w w' _) ∧ (s' 6 = U (orAll (strictR r) ((lst s).take j.toNat))) ∧ (s' 18 = I j) ∧ (0 ≤ j) ∧ (j ≤ (lst s).length)) (fun (j : Int) => ((lst s).length - j).toNat) (0) ⟨Fr.refl _ _, hH15, (congrArg U (by simp [orAll])), rfl, (by omega), (by omega)⟩ ?_
    rintro j sg17 w17 ⟨fr17, hH17, e6_17, e18_17, j0, j1⟩
    have e1_17 := (fr17 1 rfl).trans e1_13
    have e4_17 := (fr17 4 rfl).trans e4_13
    have e5_17 := (fr17 5 rfl).trans e5_13
    have e15_17 : sg17 15 = U _ := (fr17 15 rfl).trans rfl
    have e16_17 := (fr17 16 rfl).trans (by conv => lhs; whnf)
    have e17_17 : sg17 17 = I _ := (fr17 17 rfl).trans rfl
    refine CW.seq ?_
    refine CW.region ?_
    refine RL.val rfl (run_lss e18_17 e17_17) ?_
    refine RL.nil ?_
    refine CW.seq ?_
    refine CW.condP rfl (fun h19 => ?_) (fun h19 => ?_)
    · refine CW.skip ?_
      refine CW.seq ?_
      refine CW.block ?_
      refine CW.seq ?_
      refine CW.region ?_
      refine RL.val rfl (run_indexAddrS (hH17.sl (i := 0) rfl) Tryd.underlying74 Tryd.sizeOf3 e16_17 e18_17 (by omega)) ?_
      refine RL.val rfl (run_ld Tryd.underlying3 rfl rfl ((hH17.sl (i := 0) rfl).cell _ _ (map_at (by omega)))) ?_
      refine RL.val rfl (run_assign (v := I _) rfl) ?_
      refine RL.nil ?_
      refine CW.region ?_
      refine RL.val rfl (run_move e6_17) ?_
      refine RL.val rfl (run_ldRel Tryd.underlying34 rfl rfl e1_17 (hH17.blk (i := 1) rfl)) ?_
      refine RL.val rfl (run_move (v := I _) rfl) ?_
      refine RL.callP rfl hH17 (c_relate_strict _ _ (by first | assumption | omega | (dsimp only at *; omega) | exact lst_at_bd (by assumption) (by assumption) | exact low_bd (lst_at (by assumption) (by assumption))) _) (run_call2 Tryd.call69 rfl rfl) ?_
      intro w20 hH21
      refine RL.val rfl (run_orU rfl rfl) ?_
      refine RL.val rfl (run_assign (v := U _) rfl) ?_
      refine RL.nil ?_
      refine CW.region ?_
      refine RL.val rfl (run_add e18_17 rfl (by omega)) ?_
      refine RL.val rfl (run_move (v := I _) rfl) ?_
      refine RL.nil ?_
      refine ⟨j + 1, ?_, (((((((((((fr17.u rfl).u rfl).u rfl).u rfl).u rfl).u rfl).u rfl).u rfl).u rfl).u rfl).u rfl).u rfl, hH21, (congrArg U (orAll_next j0 ‹_›)), (congrArg I (by first | rfl | omega)), ?_, ?_⟩
      · ((try dsimp only); omega)
      · omega
      · omega
    · refine CW.exit (id := 2) rfl ?_
      refine CW.seq ?_
      refine CW.region ?_
      refine RL.val rfl (run_move e6_17) ?_
      refine RL.val rfl (run_move e4_17) ?_
      refine RL.val rfl (run_andU rfl rfl) ?_
      refine RL.val rfl (run_assign (v := U _) rfl) ?_
      refine RL.nil ?_
      refine CW.seq ?_
      refine CW.seq ?_
      refine CW.region ?_
      refine RL.val rfl (run_move (v := U _) rfl) ?_
      refine RL.val rfl (run_eqlU rfl (b := 0#64) rfl) ?_
      refine RL.nil ?_
      refine CW.condP rfl (fun h23 => ?_) (fun h23 => ?_)
      · refine CW.seq ?_
        refine CW.region ?_
        refine RL.val rfl (run_move e5_17) ?_
        refine RL.val rfl (run_assign (v := I _) rfl) ?_
        refine RL.val rfl (run_assign (v := B true) rfl) ?_
        refine RL.nil ?_
        refine CW.ret ?_
        rw [take_all ‹_›] at *
        refine outP2 Tryd.results46 (congrArg I ?_) (congrArg B ?_) hH17.below <;> rw [longV, hord]
        · show k = longF r 65 (below (pts r)) 0
          rw [← hF]; exact (longF_end k0 (by omega) ‹_›).symm
        · rfl
      · refine CW.skip ?_
        refine CW.seq ?_
        refine CW.region ?_
        refine RL.val rfl (run_move (v := U _) rfl) ?_
        refine RL.val rfl (run_assign (v := U _) rfl) ?_
        refine RL.nil ?_
        refine CW.region ?_
        refine RL.val rfl (run_move e5_17) ?_
        refine RL.val rfl (run_add rfl rfl (by omega)) ?_
        refine RL.val rfl (run_assign (v := I _) rfl) ?_
        refine RL.nil ?_
        refine ⟨(k + 1, stepL r s), ?_, ((((((((((((((((((fr13.u rfl).u rfl).u rfl).u rfl).u rfl).t fr17 rfl)).u rfl).u rfl).u rfl).u rfl).u rfl).u rfl).u rfl).u rfl).u rfl).u rfl).u rfl).u rfl, (hH17.sub (.cons _ (List.Sublist.refl _))), (congrArg U (by rw [take_all ‹_›]; rfl)), (congrArg I (by first | rfl | omega)), ?_, ?_, ?_, ?_⟩
        · ((try dsimp only); omega)
        · omega
        · (rw [take_all ‹_›] at *; have := step_lt hord hs ‹_›; omega)
        · exact step_in hs
        · (rw [take_all ‹_›] at *; rw [← hF]; exact (longF_step k0 (by omega) ‹_›).symm)

theorem c_relate_Classes (r : Rl) (w : World) (hT : Tab w) : Calls Tryd.prog 66 #[.agg (relC r)] w (Pure (I (clsTo r (pts r))) w) := by
  have hp := pts_bd r
  have hcn : (cloR r).n = pts r := rfl
  refine enter Tryd.func66 rfl Tryd.ntmps66 rfl ?_
  have hH := Hp.start w
  refine CW.seq ?_
  refine CW.region ?_
  refine RL.new rfl hH (f := fun b => (.pointer (some ⟨b, 0, none⟩))) (run_box (v := .agg _) rfl) ?_
  intro b3 w1 hH2
  refine RL.val rfl (run_assign (v := I 0) rfl) ?_
  refine RL.nil ?_
  refine CW.seq ?_
  refine CW.region ?_
  refine RL.val rfl (run_ldRel Tryd.underlying34 rfl rfl rfl (hH2.blk (i := 0) rfl)) ?_
  refine RL.callP rfl hH2 (c_relate_Closure _  _) (run_call1 Tryd.call76 rfl) ?_
  intro w4 hH5
  refine RL.new rfl hH5 (f := fun b => (.pointer (some ⟨b, 0, none⟩))) (run_alloc zero_rel) ?_
  intro b8 w6 hH7
  refine RL.set hH7 (i := 0) rfl (run_stRel rfl rfl rfl (hH7.blk (i := 0) rfl)) ?_
  intro w9 hH10
  simp only [List.set_cons_zero, List.set_cons_succ] at hH10
  refine RL.nil ?_
  refine CW.seq ?_
  refine CW.region ?_
  refine RL.val rfl (run_assign (v := I 0) rfl) ?_
  refine RL.nil ?_
  refine CW.seq ?_
  refine CW.seq ?_
  refine CW.region ?_
  refine RL.val rfl (run_fieldAddr Tryd.underlying34 rfl (off := 0) rfl Tryd.sizeOf3 (by decide) rfl) ?_
  refine RL.val rfl (run_ld Tryd.underlying3 rfl rfl (hH10.cell (i := 0) rfl (relC_N _))) ?_
  refine RL.val rfl (run_move (v := I 0) rfl) ?_
  refine RL.nil ?_
  refine CW.block ?_
  refine CW.loop (G := (Int)) (fun (k : Int) s' w' => (Fr [4, 5, 6, 7, 12, 13, 14, 15, 16, 17, 18, 19, 20, 21, 22, 23, 24, 25, 26, 27] _ s') ∧ (Hp w w' _) ∧ (s' 4 = I (clsTo r k)) ∧ (s' 12 = I k) ∧ (0 ≤ k) ∧ (k ≤ pts r)) (fun (k : Int) => (pts r - k).toNat) (0) ⟨Fr.refl _ _, hH10, rfl, rfl, (by omega), (by omega)⟩ ?_
  rintro k sg11 w11 ⟨fr11, hH11, e4_11, e12_11, h0, hk⟩
  have e2_11 : sg11 2 = I _ := (fr11 2 rfl).trans rfl
  have e3_11 : sg11 3 = .pointer (some ⟨_, _, none⟩) := (fr11 3 rfl).trans rfl
  have e11_11 : sg11 11 = I _ := (fr11 11 rfl).trans rfl
  refine CW.seq ?_
  refine CW.region ?_
  refine RL.val rfl (run_lss e12_11 e11_11) ?_
  refine RL.nil ?_
  refine CW.seq ?_
  refine CW.condP rfl (fun h13 => ?_) (fun h13 => ?_)
  · refine CW.skip ?_
    refine CW.seq ?_
    refine CW.block ?_
    refine CW.seq ?_
    refine CW.region ?_
    refine RL.val rfl (run_move e12_11) ?_
    refine RL.val rfl (run_assign (v := I _) rfl) ?_
    refine RL.nil ?_
    refine CW.seq ?_
    refine CW.region ?_
    refine RL.val rfl (run_ldRel Tryd.underlying34 rfl rfl e3_11 (hH11.blk (i := 0) rfl)) ?_
    refine RL.val rfl (run_move (v := I _) rfl) ?_
    refine RL.callP rfl hH11 (c_relate_mutual _ _  _ (hT.hp hH11)) (run_call2 Tryd.call77 rfl rfl) ?_
    intro w14 hH15
    refine RL.callP rfl hH15 (c_mask_Least _  _ (hT.hp hH15)) (run_call1 Tryd.call85 rfl) ?_
    intro w16 hH17
    refine RL.val rfl (run_move (by conv => lhs; whnf)) ?_
    refine RL.val rfl (run_extract rfl (v := I _) rfl) ?_
    refine RL.val rfl (run_extract rfl (v := B _) rfl) ?_
    refine RL.val rfl (run_assign (v := I _) rfl) ?_
    refine RL.val rfl (run_assign (v := B _) rfl) ?_
    refine RL.nil ?_
    refine CW.seq ?_
    refine CW.region ?_
    refine RL.val rfl (run_move (v := I _) rfl) ?_
    refine RL.val rfl (run_move (v := I _) rfl) ?_
    refine RL.val rfl (run_eql rfl rfl) ?_
    refine RL.nil ?_
    refine CW.condP rfl (fun h20 => ?_) (fun h20 => ?_)
    · refine CW.region ?_
      refine RL.val rfl (run_move e4_11) ?_
      refine RL.val rfl (run_add rfl rfl (by first | omega | (have := @cls_bd r k h0; omega))) ?_
      refine RL.val rfl (run_assign (v := I _) rfl) ?_
      refine RL.nil ?_
      refine CW.region ?_
      refine RL.val rfl (run_add e12_11 rfl (by first | omega | (have := @cls_bd r k h0; omega))) ?_
      refine RL.val rfl (run_move (v := I _) rfl) ?_
      refine RL.nil ?_
      refine ⟨k + 1, ?_, (((((((((((((((((((fr11.u rfl).u rfl).u rfl).u rfl).u rfl).u rfl).u rfl).u rfl).u rfl).u rfl).u rfl).u rfl).u rfl).u rfl).u rfl).u rfl).u rfl).u rfl).u rfl).u rfl, hH17, (congrArg I (by first | exact cls_eq ⟨h0, by omega⟩ ‹_› | exact cls_ne ⟨h0, by omega⟩ ‹_›)), (congrArg I (by first | rfl | omega)), ?_, ?_⟩
      · ((try dsimp only); omega)
      · omega
      · omega
    · refine CW.skip ?_
      refine CW.region ?_
      refine RL.val rfl (run_add e12_11 rfl (by first | omega | (have := @cls_bd r k h0; omega))) ?_
      refine RL.val rfl (run_move (v := I _) rfl) ?_
      refine RL.nil ?_
      refine ⟨k + 1, ?_, ((((((((((((((((fr11.u rfl).u rfl).u rfl).u rfl).u rfl).u rfl).u rfl).u rfl).u rfl).u rfl).u rfl).u rfl).u rfl).u rfl).u rfl).u rfl).u rfl, hH17, (Eq.trans e4_11 (congrArg I (by first | exact cls_eq ⟨h0, by omega⟩ ‹_› | exact cls_ne ⟨h0, by omega⟩ ‹_›))), (congrArg I (by first | rfl | omega)), ?_, ?_⟩
      · ((try dsimp only); omega)
      · omega
      · omega
  · refine CW.exit (id := 0) rfl ?_
    refine CW.seq ?_
    refine CW.region ?_
    refine RL.val rfl (run_move e4_11) ?_
    refine RL.val rfl (run_assign (v := I _) rfl) ?_
    refine RL.nil ?_
    refine CW.ret ?_
    refine outP1 Tryd.results66 (congrArg I ?_) hH11.below
    rw [show k = pts r by omega]

theorem c_hasse_in (r : Rl) (i : Int) (w : World) : Calls Tryd.prog 80 #[.agg (relC r), I i] w (Pure (B (isP r i)) w) := by
  have hp := pts_bd r
  have hnn : (newR r.n).n = pts r := rfl
  refine enter Tryd.func80 rfl Tryd.ntmps80 rfl ?_
  have hH := Hp.start w
  refine CW.seq ?_
  refine CW.region ?_
  refine RL.new rfl hH (f := fun b => (.pointer (some ⟨b, 0, none⟩))) (run_box (v := .agg _) rfl) ?_
  intro b3 w1 hH2
  refine RL.val rfl (run_assign (v := B false) rfl) ?_
  refine RL.nil ?_
  refine CW.seq ?_
  refine CW.region ?_
  refine RL.val rfl (run_move (v := I _) rfl) ?_
  refine RL.val rfl (run_geq rfl rfl) ?_
  refine RL.val rfl (run_move (v := B _) rfl) ?_
  refine RL.splitP (dj := 7) rfl (fun h5 => ?_) (fun h5 => ?_)
  · refine RL.gT rfl (bT h5) ?_
    refine RL.val rfl (run_move (v := I _) rfl) ?_
    refine RL.gT rfl (bT h5) ?_
    refine RL.val rfl (run_fieldAddr Tryd.underlying34 rfl (off := 0) rfl Tryd.sizeOf3 (by decide) rfl) ?_
    refine RL.gT rfl (bT h5) ?_
    refine RL.val rfl (run_ld Tryd.underlying3 rfl rfl (hH2.cell (i := 0) rfl (relC_N _))) ?_
    refine RL.gT rfl (bT h5) ?_
    refine RL.callP rfl hH2 (c_relate_New _  _) (run_call1 Tryd.call61 rfl) ?_
    intro w6 hH7
    refine RL.gT rfl (bT h5) ?_
    refine RL.val rfl (run_field Tryd.underlying34 rfl Tryd.isAgg3 rfl (relC_N _)) ?_
    refine RL.gT rfl (bT h5) ?_
    refine RL.val rfl (run_lss rfl rfl) ?_
    refine RL.val rfl (run_pickT (bT h5) (v := B _) rfl) ?_
    refine RL.val rfl (run_assign (v := B _) rfl) ?_
    refine RL.nil ?_
    refine CW.ret ?_
    refine outP1 Tryd.results80 (congrArg B ?_) hH7.below
    (rw [isP, Bool.eq_iff_iff]; simp only [decide_eq_true_eq, Bool.false_eq_true, false_iff]; omega)
  · refine RL.gF rfl rfl (bF h5) rfl ?_
    refine RL.gF rfl rfl (bF h5) rfl ?_
    refine RL.gF rfl rfl (bF h5) rfl ?_
    refine RL.gF rfl rfl (bF h5) rfl ?_
    refine RL.gF rfl rfl (bF h5) rfl ?_
    refine RL.gF rfl rfl (bF h5) rfl ?_
    refine RL.val rfl (run_pickF (bF h5) (v := B false) rfl) ?_
    refine RL.val rfl (run_assign (v := B _) rfl) ?_
    refine RL.nil ?_
    refine CW.ret ?_
    refine outP1 Tryd.results80 (congrArg B ?_) hH2.below
    (rw [isP, Bool.eq_iff_iff]; simp only [decide_eq_true_eq, Bool.false_eq_true, false_iff]; omega)

theorem c_hasse_above (r : Rl) (i : Int) (w : World) (hT : Tab w) : Calls Tryd.prog 57 #[.agg (relC r), I i] w (Pure (U (aboveR r i)) w) := by
  refine enter Tryd.func57 rfl Tryd.ntmps57 rfl ?_
  have hH := Hp.start w
  refine CW.seq ?_
  refine CW.region ?_
  refine RL.new rfl hH (f := fun b => (.pointer (some ⟨b, 0, none⟩))) (run_box (v := .agg _) rfl) ?_
  intro b3 w1 hH2
  refine RL.val rfl (run_assign (v := U 0#64) rfl) ?_
  refine RL.nil ?_
  refine CW.seq ?_
  refine CW.regionD (by kernel_rfl) hH2 ?_
  intro w4 hH5
  refine AN.take 0 rfl rfl (by kernel_rfl) (by kernel_rfl) (by kernel_rfl) (hH5.sub (List.Sublist.refl _)) (fun w hS => run_ldRel Tryd.underlying34 rfl rfl rfl (hS.blk (i := 0) rfl)) ?_
  refine AN.take 1 rfl rfl (by kernel_rfl) (by kernel_rfl) (by kernel_rfl) (hH5.sub (List.Sublist.refl _)) (fun w hS => run_move (v := I _) rfl) ?_
  refine AN.one 2 (by kernel_rfl) ?_
  refine AO.new rfl gnone rfl hH5 (List.Sublist.refl _) (f := fun b => .slice (some ⟨b, 0, none⟩) 1 1) (run_mkL Tryd.underlying74 rfl rfl (sz := 1) (vs := [I _]) rfl rfl (by decide) (by decide) rfl rfl) ?_
  intro b8 w6 hH7
  (try simp only [List.flatMap_cons, List.flatMap_nil, clI, clB, clS, clP, clL, clA, List.append_nil, List.cons_append, List.nil_append] at hH7)
  refine AN.one 3 (by kernel_rfl) ?_
  refine AO.callP rfl gnone rfl hH7 (.cons _ (List.Sublist.refl _)) (c_mask_Of _ [i] _ (hH7.slBlk (i := 0) (n := 1) (sz := 1) rfl rfl (by decide))) (run_call1 Tryd.call78 rfl) ?_
  intro w9 hH10
  refine AN.one 4 (by kernel_rfl) ?_
  refine AO.callP rfl gnone rfl hH10 (.cons _ (List.Sublist.refl _)) (c_relate_Up _ _  _ (hT.hp hH10)) (run_call2 Tryd.call79 rfl rfl) ?_
  intro w11 hH12
  refine AN.take 5 rfl rfl (by kernel_rfl) (by kernel_rfl) (by kernel_rfl) (hH12.sub (.cons _ (List.Sublist.refl _))) (fun w hS => run_assign (v := U _) rfl) ?_
  refine AN.done (by kernel_rfl) ?_
  refine CW.ret ?_
  refine outP1 Tryd.results57 (congrArg U ?_) hH12.below
  rfl

theorem c_hasse_below (r : Rl) (i : Int) (w : World) (hT : Tab w) : Calls Tryd.prog 58 #[.agg (relC r), I i] w (Pure (U (belowR r i)) w) := by
  refine enter Tryd.func58 rfl Tryd.ntmps58 rfl ?_
  have hH := Hp.start w
  refine CW.seq ?_
  refine CW.region ?_
  refine RL.new rfl hH (f := fun b => (.pointer (some ⟨b, 0, none⟩))) (run_box (v := .agg _) rfl) ?_
  intro b3 w1 hH2
  refine RL.val rfl (run_assign (v := U 0#64) rfl) ?_
  refine RL.nil ?_
  refine CW.seq ?_
  refine CW.seq ?_
  refine CW.region ?_
  refine RL.val rfl (run_ldRel Tryd.underlying34 rfl rfl rfl (hH2.blk (i := 0) rfl)) ?_
  refine RL.val rfl (run_move (v := I _) rfl) ?_
  refine RL.callP rfl hH2 (c_hasse_in _ _  _) (run_call2 Tryd.call80 rfl rfl) ?_
  intro w4 hH5
  refine RL.val rfl (run_not rfl) ?_
  refine RL.nil ?_
  refine CW.cond rfl (fun h8 => ?_) (fun h8 => ?_)
  · refine CW.seq ?_
    refine CW.region ?_
    refine RL.val rfl (run_assign (v := U 0#64) rfl) ?_
    refine RL.nil ?_
    refine CW.ret ?_
    refine outP1 Tryd.results58 (congrArg U ?_) hH5.below
    first | rw [belowR, if_neg (by simpa using ‹(!isP r i) = true›)] | rw [belowR, if_pos (by simpa using ‹(!isP r i) = false›)]
  · refine CW.skip ?_
    refine CW.seq ?_
    refine CW.regionD (by kernel_rfl) hH5 ?_
    intro w9 hH10
    refine AN.take 0 rfl rfl (by kernel_rfl) (by kernel_rfl) (by kernel_rfl) (hH10.sub (List.Sublist.refl _)) (fun w hS => run_ldRel Tryd.underlying34 rfl rfl rfl (hS.blk (i := 0) rfl)) ?_
    refine AN.take 1 rfl rfl (by kernel_rfl) (by kernel_rfl) (by kernel_rfl) (hH10.sub (List.Sublist.refl _)) (fun w hS => run_move (v := I _) rfl) ?_
    refine AN.one 2 (by kernel_rfl) ?_
    refine AO.new rfl gnone rfl hH10 (List.Sublist.refl _) (f := fun b => .slice (some ⟨b, 0, none⟩) 1 1) (run_mkL Tryd.underlying74 rfl rfl (sz := 1) (vs := [I _]) rfl rfl (by decide) (by decide) rfl rfl) ?_
    intro b13 w11 hH12
    (try simp only [List.flatMap_cons, List.flatMap_nil, clI, clB, clS, clP, clL, clA, List.append_nil, List.cons_append, List.nil_append] at hH12)
    refine AN.one 3 (by kernel_rfl) ?_
    refine AO.callP rfl gnone rfl hH12 (.cons _ (List.Sublist.refl _)) (c_mask_Of _ [i] _ (hH12.slBlk (i := 0) (n := 1) (sz := 1) rfl rfl (by decide))) (run_call1 Tryd.call78 rfl) ?_
    intro w14 hH15
    refine AN.one 4 (by kernel_rfl) ?_
    refine AO.callP rfl gnone rfl hH15 (.cons _ (List.Sublist.refl _)) (c_relate_Down _ _  _) (run_call2 Tryd.call81 rfl rfl) ?_
    intro w16 hH17
    refine AN.take 5 rfl rfl (by kernel_rfl) (by kernel_rfl) (by kernel_rfl) (hH17.sub (.cons _ (List.Sublist.refl _))) (fun w hS => run_assign (v := U _) rfl) ?_
    refine AN.done (by kernel_rfl) ?_
    refine CW.ret ?_
    refine outP1 Tryd.results58 (congrArg U ?_) hH17.below
    first | rw [belowR, if_neg (by simpa using ‹(!isP r i) = true›)] | rw [belowR, if_pos (by simpa using ‹(!isP r i) = false›)]

theorem c_hasse_nearest (r : Rl) (i j : Int) (f : FuncId) (gg : Int → BitVec 64) (w : World) (hf : ∀ args w, (callFunc f args).run Tryd.prog w = .ok (.enter f args) w) (go : ∀ i w, Tab w → Calls Tryd.prog f #[.agg (relC r), I i] w (Pure (U (gg i)) w)) (hn : ∀ u, hasB (gg i &&& gg j) u = true → u < pts r) (hT : Tab w) : Calls Tryd.prog 65 #[.agg (relC r), I i, I j, .func (.func f) #[] #[]] w (Pure (.tuple #[I (nearV gg (pts r) i j).1, B (nearV gg (pts r) i j).2]) w) := by
  have hl := lst_len (gg i &&& gg j)
  refine enter Tryd.func65 rfl Tryd.ntmps65 rfl ?_
  have hH := Hp.start w
  refine CW.seq ?_
  refine CW.region ?_
  refine RL.new rfl hH (f := fun b => (.pointer (some ⟨b, 0, none⟩))) (run_box (v := .agg _) rfl) ?_
  intro b3 w1 hH2
  refine RL.val rfl (run_assign (v := I 0) rfl) ?_
  refine RL.val rfl (run_assign (v := B false) rfl) ?_
  refine RL.nil ?_
  refine CW.seq ?_
  refine CW.regionD (by kernel_rfl) hH2 ?_
  intro w4 hH5
  refine AN.take 0 rfl rfl (by kernel_rfl) (by kernel_rfl) (by kernel_rfl) (hH5.sub (List.Sublist.refl _)) (fun w hS => run_move (v := .func _ _ _) rfl) ?_
  refine AN.take 1 rfl rfl (by kernel_rfl) (by kernel_rfl) (by kernel_rfl) (hH5.sub (List.Sublist.refl _)) (fun w hS => run_ldRel Tryd.underlying34 rfl rfl rfl (hS.blk (i := 0) rfl)) ?_
  refine AN.take 2 rfl rfl (by kernel_rfl) (by kernel_rfl) (by kernel_rfl) (hH5.sub (List.Sublist.refl _)) (fun w hS => run_move (v := I _) rfl) ?_
  refine AN.take 4 rfl rfl (by kernel_rfl) (by kernel_rfl) (by kernel_rfl) (hH5.sub (List.Sublist.refl _)) (fun w hS => run_move (v := .func _ _ _) rfl) ?_
  refine AN.take 5 rfl rfl (by kernel_rfl) (by kernel_rfl) (by kernel_rfl) (hH5.sub (List.Sublist.refl _)) (fun w hS => run_ldRel Tryd.underlying34 rfl rfl rfl (hS.blk (i := 0) rfl)) ?_
  refine AN.take 6 rfl rfl (by kernel_rfl) (by kernel_rfl) (by kernel_rfl) (hH5.sub (List.Sublist.refl _)) (fun w hS => run_move (v := I _) rfl) ?_
  refine AN.one 3 (by kernel_rfl) ?_
  refine AO.callP rfl gnone rfl hH5 (List.Sublist.refl _) (go _ _ (hT.hp hH5)) (run_callC2 hf (cs := []) rfl rfl rfl) ?_
  intro w6 hH7
  refine AN.one 7 (by kernel_rfl) ?_
  refine AO.callP rfl gnone rfl hH7 (List.Sublist.refl _) (go _ _ (hT.hp hH7)) (run_callC2 hf (cs := []) rfl rfl rfl) ?_
  intro w8 hH9
  refine AN.take 8 rfl rfl (by kernel_rfl) (by kernel_rfl) (by kernel_rfl) (hH9.sub (List.Sublist.refl _)) (fun w hS => run_andU rfl rfl) ?_
  refine AN.take 9 rfl rfl (by kernel_rfl) (by kernel_rfl) (by kernel_rfl) (hH9.sub (List.Sublist.refl _)) (fun w hS => run_assign (v := U _) rfl) ?_
  refine AN.done (by kernel_rfl) ?_
  refine CW.seq ?_
  refine CW.seq ?_
  refine CW.region ?_
  refine RL.val rfl (run_move (v := U _) rfl) ?_
  refine RL.callR rfl hH9 (c_mask_List _  _ (hT.hp hH9)) (run_call1 Tryd.call68 rfl) ?_
  intro v12 w10 hH11
  refine RL.val rfl (run_lenSl (hH11.sl (i := 0) rfl) rfl Tryd.underlying74 rfl) ?_
  refine RL.val rfl (run_move (v := I 0) rfl) ?_
  refine RL.nil ?_
  refine CW.block ?_
  refine CW.loop (G := (Int)) (fun (a : Int) s' w' => (Fr [8, 9, 12, 25, 26, 27, 28, 29, 30, 31, 32, 33, 34, 35, 36] _ s') ∧ (Hp w w' _) ∧ (s' 25 = I a) ∧ (0 ≤ a) ∧ (a ≤ (lst (gg i &&& gg j)).length) ∧ (∀ b : Int, 0 ≤ b → b < a → subB (gg i &&& gg j) (gg ((lst (gg i &&& gg j)).getD b.toNat 0)) = false)) (fun (a : Int) => ((lst (gg i &&& gg j)).length - a).toNat) (0) ⟨Fr.refl _ _, hH11, rfl, (by omega), (by omega), fun b x y => absurd y (by omega)⟩ ?_
  rintro a sg13 w13 ⟨fr13, hH13, e25_13, a0, a1, hg⟩
  have e3_13 : sg13 3 = .func _ _ _ := (fr13 3 rfl).trans rfl
  have e4_13 : sg13 4 = .pointer (some ⟨_, _, none⟩) := (fr13 4 rfl).trans rfl
  have e10_13 : sg13 10 = U _ := (fr13 10 rfl).trans rfl
  have e23_13 := (fr13 23 rfl).trans (by conv => lhs; whnf)
  have e24_13 : sg13 24 = I _ := (fr13 24 rfl).trans rfl
  refine CW.seq ?_
  refine CW.region ?_
  refine RL.val rfl (run_lss e25_13 e24_13) ?_
  refine RL.nil ?_
  refine CW.seq ?_
  refine CW.condP rfl (fun h15 => ?_) (fun h15 => ?_)
  · refine CW.skip ?_
    refine CW.seq ?_
    refine CW.block ?_
    refine CW.seq ?_
    refine CW.region ?_
    refine RL.val rfl (run_indexAddrS (hH13.sl (i := 0) rfl) Tryd.underlying74 Tryd.sizeOf3 e23_13 e25_13 (by omega)) ?_
    refine RL.val rfl (run_ld Tryd.underlying3 rfl rfl ((hH13.sl (i := 0) rfl).cell _ _ (map_at (by omega)))) ?_
    refine RL.val rfl (run_assign (v := I _) rfl) ?_
    refine RL.nil ?_
    refine CW.seq ?_
    refine CW.region ?_
    refine RL.val rfl (run_move e10_13) ?_
    refine RL.val rfl (run_move e3_13) ?_
    refine RL.val rfl (run_ldRel Tryd.underlying34 rfl rfl e4_13 (hH13.blk (i := 1) rfl)) ?_
    refine RL.val rfl (run_move (v := I _) rfl) ?_
    refine RL.callP rfl hH13 (go _ _ (hT.hp hH13)) (run_callC2 hf (cs := []) rfl rfl rfl) ?_
    intro w16 hH17
    refine RL.callP rfl hH17 (c_mask_Sub _ _  _) (run_call2 Tryd.call29 rfl rfl) ?_
    intro w18 hH19
    refine RL.nil ?_
    refine CW.cond rfl (fun h21 => ?_) (fun h21 => ?_)
    · refine CW.seq ?_
      refine CW.region ?_
      refine RL.val rfl (run_move (v := I _) rfl) ?_
      refine RL.val rfl (run_assign (v := I _) rfl) ?_
      refine RL.val rfl (run_assign (v := B true) rfl) ?_
      refine RL.nil ?_
      refine CW.ret ?_
      refine outP2 Tryd.results65 (congrArg I ?_) (congrArg B ?_) hH19.below <;> rw [near_yes hn a0 ‹_› ‹_› hg]
    · refine CW.skip ?_
      refine CW.region ?_
      refine RL.val rfl (run_add e25_13 rfl (by omega)) ?_
      refine RL.val rfl (run_move (v := I _) rfl) ?_
      refine RL.nil ?_
      refine ⟨a + 1, ?_, (((((((((((fr13.u rfl).u rfl).u rfl).u rfl).u rfl).u rfl).u rfl).u rfl).u rfl).u rfl).u rfl).u rfl, hH19, (congrArg I (by first | rfl | omega)), ?_, ?_, ?_⟩
      · ((try dsimp only); omega)
      · omega
      · omega
      · exact fun b x y => if e : b = a then e ▸ ‹_› else hg b x (by omega)
  · refine CW.exit (id := 0) rfl ?_
    refine CW.seq ?_
    refine CW.region ?_
    refine RL.val rfl (run_assign (v := I 0) rfl) ?_
    refine RL.val rfl (run_assign (v := B false) rfl) ?_
    refine RL.nil ?_
    refine CW.ret ?_
    refine outP2 Tryd.results65 (congrArg I ?_) (congrArg B ?_) hH13.below <;> rw [near_no ‹_› hg]

theorem c_hasse_Join (r : Rl) (i j : Int) (w : World) (hT : Tab w) : Calls Tryd.prog 44 #[.agg (relC r), I i, I j] w (Pure (.tuple #[I (joinV r i j).1, B (joinV r i j).2]) w) := by
  refine enter Tryd.func44 rfl Tryd.ntmps44 rfl ?_
  have hH := Hp.start w
  refine CW.seq ?_
  refine CW.region ?_
  refine RL.new rfl hH (f := fun b => (.pointer (some ⟨b, 0, none⟩))) (run_box (v := .agg _) rfl) ?_
  intro b3 w1 hH2
  refine RL.val rfl (run_assign (v := I 0) rfl) ?_
  refine RL.val rfl (run_assign (v := B false) rfl) ?_
  refine RL.nil ?_
  refine CW.seq ?_
  refine CW.region ?_
  refine RL.val rfl (run_ldRel Tryd.underlying34 rfl rfl rfl (hH2.blk (i := 0) rfl)) ?_
  refine RL.val rfl (run_move (v := I _) rfl) ?_
  refine RL.val rfl (run_move (v := I _) rfl) ?_
  refine RL.callP rfl hH2 (c_hasse_nearest r i j 57 (aboveR r) _ Tryd.call57 (fun i w h => c_hasse_above r i w h) (fun u h => above_in h) (hT.hp hH2)) (run_call4 Tryd.call65 rfl rfl rfl rfl) ?_
  intro w4 hH5
  refine RL.val rfl (run_extract rfl (v := I _) rfl) ?_
  refine RL.val rfl (run_extract rfl (v := B _) rfl) ?_
  refine RL.val rfl (run_assign (v := I _) rfl) ?_
  refine RL.val rfl (run_assign (v := B _) rfl) ?_
  refine RL.nil ?_
  refine CW.ret ?_
  refine outP2 Tryd.results44 (congrArg I ?_) (congrArg B ?_) hH5.below
  all_goals rfl

theorem c_hasse_Meet (r : Rl) (i j : Int) (w : World) (hT : Tab w) : Calls Tryd.prog 55 #[.agg (relC r), I i, I j] w (Pure (.tuple #[I (meetV r i j).1, B (meetV r i j).2]) w) := by
  refine enter Tryd.func55 rfl Tryd.ntmps55 rfl ?_
  have hH := Hp.start w
  refine CW.seq ?_
  refine CW.region ?_
  refine RL.new rfl hH (f := fun b => (.pointer (some ⟨b, 0, none⟩))) (run_box (v := .agg _) rfl) ?_
  intro b3 w1 hH2
  refine RL.val rfl (run_assign (v := I 0) rfl) ?_
  refine RL.val rfl (run_assign (v := B false) rfl) ?_
  refine RL.nil ?_
  refine CW.seq ?_
  refine CW.region ?_
  refine RL.val rfl (run_ldRel Tryd.underlying34 rfl rfl rfl (hH2.blk (i := 0) rfl)) ?_
  refine RL.val rfl (run_move (v := I _) rfl) ?_
  refine RL.val rfl (run_move (v := I _) rfl) ?_
  refine RL.callP rfl hH2 (c_hasse_nearest r i j 58 (belowR r) _ Tryd.call58 (fun i w h => c_hasse_below r i w h) (fun u h => below_inR h) (hT.hp hH2)) (run_call4 Tryd.call65 rfl rfl rfl rfl) ?_
  intro w4 hH5
  refine RL.val rfl (run_extract rfl (v := I _) rfl) ?_
  refine RL.val rfl (run_extract rfl (v := B _) rfl) ?_
  refine RL.val rfl (run_assign (v := I _) rfl) ?_
  refine RL.val rfl (run_assign (v := B _) rfl) ?_
  refine RL.nil ?_
  refine CW.ret ?_
  refine outP2 Tryd.results55 (congrArg I ?_) (congrArg B ?_) hH5.below
  all_goals rfl

theorem c_hasse_Word (r : Rl) (i : Int) (w : World) (hT : Tab w) : Calls Tryd.prog 36 #[.agg (relC r), I i] w (Pure (U (belowR r i)) w) := by
  refine enter Tryd.func36 rfl Tryd.ntmps36 rfl ?_
  have hH := Hp.start w
  refine CW.seq ?_
  refine CW.region ?_
  refine RL.new rfl hH (f := fun b => (.pointer (some ⟨b, 0, none⟩))) (run_box (v := .agg _) rfl) ?_
  intro b3 w1 hH2
  refine RL.val rfl (run_assign (v := U 0#64) rfl) ?_
  refine RL.nil ?_
  refine CW.seq ?_
  refine CW.region ?_
  refine RL.val rfl (run_ldRel Tryd.underlying34 rfl rfl rfl (hH2.blk (i := 0) rfl)) ?_
  refine RL.val rfl (run_move (v := I _) rfl) ?_
  refine RL.callP rfl hH2 (c_hasse_below _ _  _ (hT.hp hH2)) (run_call2 Tryd.call58 rfl rfl) ?_
  intro w4 hH5
  refine RL.val rfl (run_assign (v := U _) rfl) ?_
  refine RL.nil ?_
  refine CW.ret ?_
  refine outP1 Tryd.results36 (congrArg U ?_) hH5.below
  rfl

theorem c_hasse_Point (r : Rl) (s : BitVec 64) (w : World) (hT : Tab w) : Calls Tryd.prog 40 #[.agg (relC r), U s] w (Pure (.tuple #[I (pointV r s).1, B (pointV r s).2]) w) := by
  have hp := pts_bd r
  have hnn : (newR r.n).n = pts r := rfl
  refine enter Tryd.func40 rfl Tryd.ntmps40 rfl ?_
  have hH := Hp.start w
  refine CW.seq ?_
  refine CW.region ?_
  refine RL.new rfl hH (f := fun b => (.pointer (some ⟨b, 0, none⟩))) (run_box (v := .agg _) rfl) ?_
  intro b3 w1 hH2
  refine RL.val rfl (run_assign (v := I 0) rfl) ?_
  refine RL.val rfl (run_assign (v := B false) rfl) ?_
  refine RL.nil ?_
  refine CW.seq ?_
  refine CW.seq ?_
  refine CW.region ?_
  refine RL.val rfl (run_fieldAddr Tryd.underlying34 rfl (off := 0) rfl Tryd.sizeOf3 (by decide) rfl) ?_
  refine RL.val rfl (run_ld Tryd.underlying3 rfl rfl (hH2.cell (i := 0) rfl (relC_N _))) ?_
  refine RL.callP rfl hH2 (c_relate_New _  _) (run_call1 Tryd.call61 rfl) ?_
  intro w4 hH5
  refine RL.val rfl (run_field Tryd.underlying34 rfl Tryd.isAgg3 rfl (relC_N _)) ?_
  refine RL.val rfl (run_move (v := I 0) rfl) ?_
  refine RL.nil ?_
  refine CW.block ?_
  refine CW.loop (G := (Int)) (fun (k : Int) s' w' => (Fr [4, 5, 6, 11, 12, 13, 14, 15, 16, 17, 18, 19, 20] _ s') ∧ (Hp w w' _) ∧ (s' 11 = I k) ∧ (0 ≤ k) ∧ (k ≤ pts r) ∧ (∀ j : Int, 0 ≤ j → j < k → belowR r j ≠ s)) (fun (k : Int) => (pts r - k).toNat) (0) ⟨Fr.refl _ _, hH5, rfl, (by omega), (by omega), fun j x y => absurd y (by omega)⟩ ?_
  rintro k sg6 w6 ⟨fr6, hH6, e11_6, h0, hk, hg⟩
  have e1_6 : sg6 1 = U _ := (fr6 1 rfl).trans rfl
  have e2_6 : sg6 2 = .pointer (some ⟨_, _, none⟩) := (fr6 2 rfl).trans rfl
  have e10_6 : sg6 10 = I _ := (fr6 10 rfl).trans rfl
  refine CW.seq ?_
  refine CW.region ?_
  refine RL.val rfl (run_lss e11_6 e10_6) ?_
  refine RL.nil ?_
  refine CW.seq ?_
  refine CW.condP rfl (fun h8 => ?_) (fun h8 => ?_)
  · refine CW.skip ?_
    refine CW.seq ?_
    refine CW.block ?_
    refine CW.seq ?_
    refine CW.region ?_
    refine RL.val rfl (run_move e11_6) ?_
    refine RL.val rfl (run_assign (v := I _) rfl) ?_
    refine RL.nil ?_
    refine CW.seq ?_
    refine CW.region ?_
    refine RL.val rfl (run_ldRel Tryd.underlying34 rfl rfl e2_6 (hH6.blk (i := 0) rfl)) ?_
    refine RL.val rfl (run_move (v := I _) rfl) ?_
    refine RL.callP rfl hH6 (c_hasse_Word _ _  _ (hT.hp hH6)) (run_call2 Tryd.call36 rfl rfl) ?_
    intro w9 hH10
    refine RL.val rfl (run_move e1_6) ?_
    refine RL.val rfl (run_eqlU rfl rfl) ?_
    refine RL.nil ?_
    refine CW.condP rfl (fun h12 => ?_) (fun h12 => ?_)
    · refine CW.seq ?_
      refine CW.region ?_
      refine RL.val rfl (run_move (v := I _) rfl) ?_
      refine RL.val rfl (run_assign (v := I _) rfl) ?_
      refine RL.val rfl (run_assign (v := B true) rfl) ?_
      refine RL.nil ?_
      refine CW.ret ?_
      refine outP2 Tryd.results40 (congrArg I ?_) (congrArg B ?_) hH10.below <;> rw [point_yes h0 (by omega) ‹_› hg]
    · refine CW.skip ?_
      refine CW.region ?_
      refine RL.val rfl (run_add e11_6 rfl (by omega)) ?_
      refine RL.val rfl (run_move (v := I _) rfl) ?_
      refine RL.nil ?_
      refine ⟨k + 1, ?_, (((((((((fr6.u rfl).u rfl).u rfl).u rfl).u rfl).u rfl).u rfl).u rfl).u rfl).u rfl, hH10, (congrArg I (by first | rfl | omega)), ?_, ?_, ?_⟩
      · ((try dsimp only); omega)
      · omega
      · omega
      · exact fun j x y => if e : j = k then e ▸ ‹¬ belowR r k = s› else hg j x (by omega)
  · refine CW.exit (id := 0) rfl ?_
    refine CW.seq ?_
    refine CW.region ?_
    refine RL.val rfl (run_assign (v := I 0) rfl) ?_
    refine RL.val rfl (run_assign (v := B false) rfl) ?_
    refine RL.nil ?_
    refine CW.ret ?_
    refine outP2 Tryd.results40 (congrArg I ?_) (congrArg B ?_) hH6.below <;> rw [point_no (by omega) hg]

theorem c_hasse_Raise (r : Rl) (a b : BitVec 64) (w : World) (hT : Tab w) : Calls Tryd.prog 27 #[.agg (relC r), U a, U b] w (Pure (U (raiseV r a b)) w) := by
  refine enter Tryd.func27 rfl Tryd.ntmps27 rfl ?_
  have hH := Hp.start w
  refine CW.seq ?_
  refine CW.region ?_
  refine RL.new rfl hH (f := fun b => (.pointer (some ⟨b, 0, none⟩))) (run_box (v := .agg _) rfl) ?_
  intro b3 w1 hH2
  refine RL.val rfl (run_assign (v := U 0#64) rfl) ?_
  refine RL.nil ?_
  refine CW.seq ?_
  refine CW.seq ?_
  refine CW.region ?_
  refine RL.val rfl (run_ldRel Tryd.underlying34 rfl rfl rfl (hH2.blk (i := 0) rfl)) ?_
  refine RL.val rfl (run_move (v := U _) rfl) ?_
  refine RL.callP rfl hH2 (c_hasse_Point _ _  _ (hT.hp hH2)) (run_call2 Tryd.call40 rfl rfl) ?_
  intro w4 hH5
  refine RL.val rfl (run_move (by conv => lhs; whnf)) ?_
  refine RL.val rfl (run_extract rfl (v := I _) rfl) ?_
  refine RL.val rfl (run_extract rfl (v := B _) rfl) ?_
  refine RL.val rfl (run_assign (v := I _) rfl) ?_
  refine RL.val rfl (run_assign (v := B _) rfl) ?_
  refine RL.nil ?_
  refine CW.seq ?_
  refine CW.region ?_
  refine RL.val rfl (run_move (v := B _) rfl) ?_
  refine RL.nil ?_
  refine CW.cond rfl (fun h7 => ?_) (fun h7 => ?_)
  · refine CW.seq ?_
    refine CW.region ?_
    refine RL.val rfl (run_ldRel Tryd.underlying34 rfl rfl rfl (hH5.blk (i := 0) rfl)) ?_
    refine RL.val rfl (run_move (v := U _) rfl) ?_
    refine RL.callP rfl hH5 (c_hasse_Point _ _  _ (hT.hp hH5)) (run_call2 Tryd.call40 rfl rfl) ?_
    intro w8 hH9
    refine RL.val rfl (run_move (by conv => lhs; whnf)) ?_
    refine RL.val rfl (run_extract rfl (v := I _) rfl) ?_
    refine RL.val rfl (run_extract rfl (v := B _) rfl) ?_
    refine RL.val rfl (run_assign (v := I _) rfl) ?_
    refine RL.val rfl (run_assign (v := B _) rfl) ?_
    refine RL.nil ?_
    refine CW.seq ?_
    refine CW.region ?_
    refine RL.val rfl (run_move (v := B _) rfl) ?_
    refine RL.nil ?_
    refine CW.cond rfl (fun h11 => ?_) (fun h11 => ?_)
    · refine CW.seq ?_
      refine CW.region ?_
      refine RL.val rfl (run_ldRel Tryd.underlying34 rfl rfl rfl (hH9.blk (i := 0) rfl)) ?_
      refine RL.val rfl (run_move (v := I _) rfl) ?_
      refine RL.val rfl (run_move (v := I _) rfl) ?_
      refine RL.callP rfl hH9 (c_hasse_Join _ _ _  _ (hT.hp hH9)) (run_call3 Tryd.call44 rfl rfl rfl) ?_
      intro w12 hH13
      refine RL.val rfl (run_move (by conv => lhs; whnf)) ?_
      refine RL.val rfl (run_extract rfl (v := I _) rfl) ?_
      refine RL.val rfl (run_extract rfl (v := B _) rfl) ?_
      refine RL.val rfl (run_assign (v := I _) rfl) ?_
      refine RL.val rfl (run_assign (v := B _) rfl) ?_
      refine RL.nil ?_
      refine CW.seq ?_
      refine CW.region ?_
      refine RL.val rfl (run_move (v := B _) rfl) ?_
      refine RL.nil ?_
      refine CW.cond rfl (fun h15 => ?_) (fun h15 => ?_)
      · refine CW.seq ?_
        refine CW.region ?_
        refine RL.val rfl (run_ldRel Tryd.underlying34 rfl rfl rfl (hH13.blk (i := 0) rfl)) ?_
        refine RL.val rfl (run_move (v := I _) rfl) ?_
        refine RL.callP rfl hH13 (c_hasse_Word _ _  _ (hT.hp hH13)) (run_call2 Tryd.call36 rfl rfl) ?_
        intro w16 hH17
        refine RL.val rfl (run_assign (v := U _) rfl) ?_
        refine RL.nil ?_
        refine CW.ret ?_
        refine outP1 Tryd.results27 (congrArg U ?_) hH17.below
        first | rw [raise_yes ‹_› ‹_› ‹_›] | rw [raise_no1 ‹_›] | rw [raise_no2 ‹_›] | rw [raise_no3 ‹_›]
      · refine CW.skip ?_
        refine CW.seq ?_
        refine CW.region ?_
        refine RL.val rfl (run_move (v := U _) rfl) ?_
        refine RL.val rfl (run_move (v := U _) rfl) ?_
        refine RL.val rfl (run_orU rfl rfl) ?_
        refine RL.val rfl (run_assign (v := U _) rfl) ?_
        refine RL.nil ?_
        refine CW.ret ?_
        refine outP1 Tryd.results27 (congrArg U ?_) hH13.below
        first | rw [raise_yes ‹_› ‹_› ‹_›] | rw [raise_no1 ‹_›] | rw [raise_no2 ‹_›] | rw [raise_no3 ‹_›]
    · refine CW.skip ?_
      refine CW.seq ?_
      refine CW.region ?_
      refine RL.val rfl (run_move (v := U _) rfl) ?_
      refine RL.val rfl (run_move (v := U _) rfl) ?_
      refine RL.val rfl (run_orU rfl rfl) ?_
      refine RL.val rfl (run_assign (v := U _) rfl) ?_
      refine RL.nil ?_
      refine CW.ret ?_
      refine outP1 Tryd.results27 (congrArg U ?_) hH9.below
      first | rw [raise_yes ‹_› ‹_› ‹_›] | rw [raise_no1 ‹_›] | rw [raise_no2 ‹_›] | rw [raise_no3 ‹_›]
  · refine CW.skip ?_
    refine CW.seq ?_
    refine CW.region ?_
    refine RL.val rfl (run_move (v := U _) rfl) ?_
    refine RL.val rfl (run_move (v := U _) rfl) ?_
    refine RL.val rfl (run_orU rfl rfl) ?_
    refine RL.val rfl (run_assign (v := U _) rfl) ?_
    refine RL.nil ?_
    refine CW.ret ?_
    refine outP1 Tryd.results27 (congrArg U ?_) hH5.below
    first | rw [raise_yes ‹_› ‹_› ‹_›] | rw [raise_no1 ‹_›] | rw [raise_no2 ‹_›] | rw [raise_no3 ‹_›]

theorem c_hasse_end (r : Rl) (f : FuncId) (gg : Int → BitVec 64) (w : World) (hf : ∀ args w, (callFunc f args).run Tryd.prog w = .ok (.enter f args) w) (go : ∀ i w, Tab w → Calls Tryd.prog f #[.agg (relC r), I i] w (Pure (U (gg i)) w)) (hT : Tab w) : Calls Tryd.prog 56 #[.agg (relC r), .func (.func f) #[] #[]] w (Pure (.tuple #[I (endV r gg).1, B (endV r gg).2]) w) := by
  have hp := pts_bd r
  have hnn : (newR r.n).n = pts r := rfl
  refine enter Tryd.func56 rfl Tryd.ntmps56 rfl ?_
  have hH := Hp.start w
  refine CW.seq ?_
  refine CW.region ?_
  refine RL.new rfl hH (f := fun b => (.pointer (some ⟨b, 0, none⟩))) (run_box (v := .agg _) rfl) ?_
  intro b3 w1 hH2
  refine RL.val rfl (run_assign (v := I 0) rfl) ?_
  refine RL.val rfl (run_assign (v := B false) rfl) ?_
  refine RL.nil ?_
  refine CW.seq ?_
  refine CW.region ?_
  refine RL.val rfl (run_fieldAddr Tryd.underlying34 rfl (off := 0) rfl Tryd.sizeOf3 (by decide) rfl) ?_
  refine RL.val rfl (run_ld Tryd.underlying3 rfl rfl (hH2.cell (i := 0) rfl (relC_N _))) ?_
  refine RL.callP rfl hH2 (c_relate_New _  _) (run_call1 Tryd.call61 rfl) ?_
  intro w4 hH5
  refine RL.val rfl (run_field Tryd.underlying34 rfl Tryd.isAgg3 rfl (relC_N _)) ?_
  refine RL.val rfl (run_assign (v := I _) rfl) ?_
  refine RL.nil ?_
  refine CW.seq ?_
  refine CW.seq ?_
  refine CW.region ?_
  refine RL.val rfl (run_move (v := I _) rfl) ?_
  refine RL.val rfl (run_move (v := I 0) rfl) ?_
  refine RL.nil ?_
  refine CW.block ?_
  refine CW.loop (G := (Int)) (fun (k : Int) s' w' => (Fr [4, 5, 7, 13, 14, 15, 16, 17, 18, 19, 20, 21, 22, 23, 24] _ s') ∧ (Hp w w' _) ∧ (s' 13 = I k) ∧ (0 ≤ k) ∧ (k ≤ pts r) ∧ (∀ j : Int, 0 ≤ j → j < k → gg j ≠ below (pts r))) (fun (k : Int) => (pts r - k).toNat) (0) ⟨Fr.refl _ _, hH5, rfl, (by omega), (by omega), fun j x y => absurd y (by omega)⟩ ?_
  rintro k sg6 w6 ⟨fr6, hH6, e13_6, h0, hk, hg⟩
  have e1_6 : sg6 1 = .func _ _ _ := (fr6 1 rfl).trans rfl
  have e2_6 : sg6 2 = .pointer (some ⟨_, _, none⟩) := (fr6 2 rfl).trans rfl
  have e6_6 : sg6 6 = I _ := (fr6 6 rfl).trans rfl
  have e12_6 : sg6 12 = I _ := (fr6 12 rfl).trans rfl
  refine CW.seq ?_
  refine CW.region ?_
  refine RL.val rfl (run_lss e13_6 e12_6) ?_
  refine RL.nil ?_
  refine CW.seq ?_
  refine CW.condP rfl (fun h8 => ?_) (fun h8 => ?_)
  · refine CW.skip ?_
    refine CW.seq ?_
    refine CW.block ?_
    refine CW.seq ?_
    refine CW.region ?_
    refine RL.val rfl (run_move e13_6) ?_
    refine RL.val rfl (run_assign (v := I _) rfl) ?_
    refine RL.nil ?_
    refine CW.seq ?_
    refine CW.region ?_
    refine RL.val rfl (run_move e1_6) ?_
    refine RL.val rfl (run_ldRel Tryd.underlying34 rfl rfl e2_6 (hH6.blk (i := 0) rfl)) ?_
    refine RL.val rfl (run_move (v := I _) rfl) ?_
    refine RL.callP rfl hH6 (go _ _ (hT.hp hH6)) (run_callC2 hf (cs := []) rfl rfl rfl) ?_
    intro w9 hH10
    refine RL.val rfl (run_move e6_6) ?_
    refine RL.callP rfl hH10 (c_mask_Below _  _) (run_call1 Tryd.call38 rfl) ?_
    intro w11 hH12
    refine RL.val rfl (run_eqlU rfl rfl) ?_
    refine RL.nil ?_
    refine CW.condP rfl (fun h14 => ?_) (fun h14 => ?_)
    · refine CW.seq ?_
      refine CW.region ?_
      refine RL.val rfl (run_move (v := I _) rfl) ?_
      refine RL.val rfl (run_assign (v := I _) rfl) ?_
      refine RL.val rfl (run_assign (v := B true) rfl) ?_
      refine RL.nil ?_
      refine CW.ret ?_
      refine outP2 Tryd.results56 (congrArg I ?_) (congrArg B ?_) hH12.below <;> rw [end_yes h0 (by omega) ‹_› hg]
    · refine CW.skip ?_
      refine CW.region ?_
      refine RL.val rfl (run_add e13_6 rfl (by omega)) ?_
      refine RL.val rfl (run_move (v := I _) rfl) ?_
      refine RL.nil ?_
      refine ⟨k + 1, ?_, (((((((((((fr6.u rfl).u rfl).u rfl).u rfl).u rfl).u rfl).u rfl).u rfl).u rfl).u rfl).u rfl).u rfl, hH12, (congrArg I (by first | rfl | omega)), ?_, ?_, ?_⟩
      · ((try dsimp only); omega)
      · omega
      · omega
      · exact fun j x y => if e : j = k then e ▸ ‹¬ gg k = below _› else hg j x (by omega)
  · refine CW.exit (id := 0) rfl ?_
    refine CW.seq ?_
    refine CW.region ?_
    refine RL.val rfl (run_assign (v := I 0) rfl) ?_
    refine RL.val rfl (run_assign (v := B false) rfl) ?_
    refine RL.nil ?_
    refine CW.ret ?_
    refine outP2 Tryd.results56 (congrArg I ?_) (congrArg B ?_) hH6.below <;> rw [end_no (by omega) hg]

theorem c_hasse_Bottom (r : Rl) (w : World) (hT : Tab w) : Calls Tryd.prog 35 #[.agg (relC r)] w (Pure (.tuple #[I (endV r (aboveR r)).1, B (endV r (aboveR r)).2]) w) := by
  refine enter Tryd.func35 rfl Tryd.ntmps35 rfl ?_
  have hH := Hp.start w
  refine CW.seq ?_
  refine CW.region ?_
  refine RL.new rfl hH (f := fun b => (.pointer (some ⟨b, 0, none⟩))) (run_box (v := .agg _) rfl) ?_
  intro b3 w1 hH2
  refine RL.val rfl (run_assign (v := I 0) rfl) ?_
  refine RL.val rfl (run_assign (v := B false) rfl) ?_
  refine RL.nil ?_
  refine CW.seq ?_
  refine CW.region ?_
  refine RL.val rfl (run_ldRel Tryd.underlying34 rfl rfl rfl (hH2.blk (i := 0) rfl)) ?_
  refine RL.callP rfl hH2 (c_hasse_end r 57 (aboveR r) _ Tryd.call57 (fun i w h => c_hasse_above r i w h) (hT.hp hH2)) (run_call2 Tryd.call56 rfl rfl) ?_
  intro w4 hH5
  refine RL.val rfl (run_extract rfl (v := I _) rfl) ?_
  refine RL.val rfl (run_extract rfl (v := B _) rfl) ?_
  refine RL.val rfl (run_assign (v := I _) rfl) ?_
  refine RL.val rfl (run_assign (v := B _) rfl) ?_
  refine RL.nil ?_
  refine CW.ret ?_
  refine outP2 Tryd.results35 (congrArg I ?_) (congrArg B ?_) hH5.below
  all_goals rfl

theorem c_hasse_Top (r : Rl) (w : World) (hT : Tab w) : Calls Tryd.prog 43 #[.agg (relC r)] w (Pure (.tuple #[I (endV r (belowR r)).1, B (endV r (belowR r)).2]) w) := by
  refine enter Tryd.func43 rfl Tryd.ntmps43 rfl ?_
  have hH := Hp.start w
  refine CW.seq ?_
  refine CW.region ?_
  refine RL.new rfl hH (f := fun b => (.pointer (some ⟨b, 0, none⟩))) (run_box (v := .agg _) rfl) ?_
  intro b3 w1 hH2
  refine RL.val rfl (run_assign (v := I 0) rfl) ?_
  refine RL.val rfl (run_assign (v := B false) rfl) ?_
  refine RL.nil ?_
  refine CW.seq ?_
  refine CW.region ?_
  refine RL.val rfl (run_ldRel Tryd.underlying34 rfl rfl rfl (hH2.blk (i := 0) rfl)) ?_
  refine RL.callP rfl hH2 (c_hasse_end r 58 (belowR r) _ Tryd.call58 (fun i w h => c_hasse_below r i w h) (hT.hp hH2)) (run_call2 Tryd.call56 rfl rfl) ?_
  intro w4 hH5
  refine RL.val rfl (run_extract rfl (v := I _) rfl) ?_
  refine RL.val rfl (run_extract rfl (v := B _) rfl) ?_
  refine RL.val rfl (run_assign (v := I _) rfl) ?_
  refine RL.val rfl (run_assign (v := B _) rfl) ?_
  refine RL.nil ?_
  refine CW.ret ?_
  refine outP2 Tryd.results43 (congrArg I ?_) (congrArg B ?_) hH5.below
  all_goals rfl

theorem c_hasse_Lattice (r : Rl) (w : World) (hT : Tab w) : Calls Tryd.prog 34 #[.agg (relC r)] w (Pure (B (latB r)) w) := by
  have hp := pts_bd r
  refine enter Tryd.func34 rfl Tryd.ntmps34 rfl ?_
  have hH := Hp.start w
  refine CW.seq ?_
  refine CW.region ?_
  refine RL.new rfl hH (f := fun b => (.pointer (some ⟨b, 0, none⟩))) (run_box (v := .agg _) rfl) ?_
  intro b3 w1 hH2
  refine RL.val rfl (run_assign (v := B false) rfl) ?_
  refine RL.nil ?_
  refine CW.seq ?_
  refine CW.seq ?_
  refine CW.region ?_
  refine RL.val rfl (run_fieldAddr Tryd.underlying34 rfl (off := 0) rfl Tryd.sizeOf3 (by decide) rfl) ?_
  refine RL.val rfl (run_ld Tryd.underlying3 rfl rfl (hH2.cell (i := 0) rfl (relC_N _))) ?_
  refine RL.val rfl (run_lss rfl rfl) ?_
  refine RL.val rfl (run_move (v := B _) rfl) ?_
  refine RL.splitP (dj := 12) rfl (fun h5 => ?_) (fun h5 => ?_)
  · refine RL.gF rfl rfl (bT h5) rfl ?_
    refine RL.gF rfl rfl (bT h5) rfl ?_
    refine RL.gF rfl rfl (bT h5) rfl ?_
    refine RL.val rfl (run_pickT (bT h5) (v := B true) rfl) ?_
    refine RL.val rfl (run_move (v := B _) rfl) ?_
    refine RL.gF rfl rfl rfl rfl ?_
    refine RL.gF rfl rfl rfl rfl ?_
    refine RL.gF rfl rfl rfl rfl ?_
    refine RL.val rfl (run_pickT rfl (v := B true) rfl) ?_
    refine RL.nil ?_
    refine CW.condT rfl ?_
    refine CW.seq ?_
    refine CW.region ?_
    refine RL.val rfl (run_assign (v := B false) rfl) ?_
    refine RL.nil ?_
    refine CW.ret ?_
    refine outP1 Tryd.results34 (congrArg B ?_) hH2.below
    first | exact (lat_no1 (by omega)).symm | exact (lat_no2 (nt ‹_›)).symm | exact (lat_no3 ‹i < r.n› j0 ‹j < i› (by rw [bothB, nt ‹(!(joinV r i j).2) = true›]; rfl)).symm | exact (lat_no3 ‹i < r.n› j0 ‹j < i› (by rw [bothB, nt ‹(!(meetV r i j).2) = true›]; simp)).symm | exact (lat_yes hn ho ‹_› hg).symm
  · refine RL.gT rfl (bF h5) ?_
    refine RL.val rfl (run_fieldAddr Tryd.underlying34 rfl (off := 0) rfl Tryd.sizeOf3 (by decide) rfl) ?_
    refine RL.gT rfl (bF h5) ?_
    refine RL.val rfl (run_ld Tryd.underlying3 rfl rfl (hH2.cell (i := 0) rfl (relC_N _))) ?_
    refine RL.gT rfl (bF h5) ?_
    refine RL.val rfl (run_gtr rfl rfl) ?_
    refine RL.val rfl (run_pickF (bF h5) (v := B _) rfl) ?_
    refine RL.val rfl (run_move (v := B _) rfl) ?_
    refine RL.splitP (dj := 17) rfl (fun h7 => ?_) (fun h7 => ?_)
    · refine RL.gF rfl rfl (bT h7) rfl ?_
      refine RL.gF rfl rfl (bT h7) rfl ?_
      refine RL.gF rfl rfl (bT h7) rfl ?_
      refine RL.val rfl (run_pickT (bT h7) (v := B true) rfl) ?_
      refine RL.nil ?_
      refine CW.condT rfl ?_
      refine CW.seq ?_
      refine CW.region ?_
      refine RL.val rfl (run_assign (v := B false) rfl) ?_
      refine RL.nil ?_
      refine CW.ret ?_
      refine outP1 Tryd.results34 (congrArg B ?_) hH2.below
      first | exact (lat_no1 (by omega)).symm | exact (lat_no2 (nt ‹_›)).symm | exact (lat_no3 ‹i < r.n› j0 ‹j < i› (by rw [bothB, nt ‹(!(joinV r i j).2) = true›]; rfl)).symm | exact (lat_no3 ‹i < r.n› j0 ‹j < i› (by rw [bothB, nt ‹(!(meetV r i j).2) = true›]; simp)).symm | exact (lat_yes hn ho ‹_› hg).symm
    · refine RL.gT rfl (bF h7) ?_
      refine RL.val rfl (run_ldRel Tryd.underlying34 rfl rfl rfl (hH2.blk (i := 0) rfl)) ?_
      refine RL.gT rfl (bF h7) ?_
      refine RL.callP rfl hH2 (c_relate_Order _  _ (hT.hp hH2)) (run_call1 Tryd.call54 rfl) ?_
      intro w8 hH9
      refine RL.gT rfl (bF h7) ?_
      refine RL.val rfl (run_not rfl) ?_
      refine RL.val rfl (run_pickF (bF h7) (v := B _) rfl) ?_
      refine RL.nil ?_
      refine CW.cond rfl (fun h12 => ?_) (fun h12 => ?_)
      · refine CW.seq ?_
        refine CW.region ?_
        refine RL.val rfl (run_assign (v := B false) rfl) ?_
        refine RL.nil ?_
        refine CW.ret ?_
        refine outP1 Tryd.results34 (congrArg B ?_) hH9.below
        first | exact (lat_no1 (by omega)).symm | exact (lat_no2 (nt ‹_›)).symm | exact (lat_no3 ‹i < r.n› j0 ‹j < i› (by rw [bothB, nt ‹(!(joinV r i j).2) = true›]; rfl)).symm | exact (lat_no3 ‹i < r.n› j0 ‹j < i› (by rw [bothB, nt ‹(!(meetV r i j).2) = true›]; simp)).symm | exact (lat_yes hn ho ‹_› hg).symm
      · refine CW.skip ?_
        refine CW.seq ?_
        refine CW.seq ?_
        refine CW.region ?_
        refine RL.val rfl (run_fieldAddr Tryd.underlying34 rfl (off := 0) rfl Tryd.sizeOf3 (by decide) rfl) ?_
        refine RL.val rfl (run_ld Tryd.underlying3 rfl rfl (hH9.cell (i := 0) rfl (relC_N _))) ?_
        refine RL.val rfl (run_move (v := I 0) rfl) ?_
        refine RL.nil ?_
        refine CW.block ?_
        have hn : 1 ≤ r.n ∧ r.n ≤ 64 := by omega
        have ho : orderB r = true := nf ‹_›
        refine CW.loop (G := (Int)) (fun (i : Int) s' w' => (Fr [2, 3, 4, 5, 6, 7, 8, 24, 25, 26, 27, 28, 29, 30, 31, 32, 33, 34, 35, 36, 37, 38, 39, 40, 41, 42, 43, 44, 45, 46, 47, 48, 49, 50, 51, 52] _ s') ∧ (Hp w w' _) ∧ (s' 24 = I i) ∧ (0 ≤ i) ∧ (i ≤ r.n) ∧ (∀ a b : Int, 0 ≤ b → b < a → a < i → bothB r a b = true)) (fun (i : Int) => (r.n - i).toNat) (0) ⟨Fr.refl _ _, hH9, rfl, (by omega), (by omega), fun a b x y z => absurd z (by omega)⟩ ?_
        rintro i sg13 w13 ⟨fr13, hH13, e24_13, i0, i1, hg⟩
        have e1_13 : sg13 1 = .pointer (some ⟨_, _, none⟩) := (fr13 1 rfl).trans rfl
        have e23_13 : sg13 23 = I _ := (fr13 23 rfl).trans rfl
        refine CW.seq ?_
        refine CW.region ?_
        refine RL.val rfl (run_lss e24_13 e23_13) ?_
        refine RL.nil ?_
        refine CW.seq ?_
        refine CW.condP rfl (fun h15 => ?_) (fun h15 => ?_)
        · refine CW.skip ?_
          refine CW.seq ?_
          refine CW.block ?_
          refine CW.seq ?_
          refine CW.region ?_
          refine RL.val rfl (run_move e24_13) ?_
          refine RL.val rfl (run_assign (v := I _) rfl) ?_
          refine RL.nil ?_
          refine CW.seq ?_
          refine CW.region ?_
          refine RL.val rfl (run_move (v := I _) rfl) ?_
          refine RL.val rfl (run_move (v := I 0) rfl) ?_
          refine RL.nil ?_
          refine CW.block ?_
          refine CW.loop (G := (Int)) (fun (j : Int) s' w' => (Fr [2, 4, 5, 6, 7, 8, 28, 29, 30, 31, 32, 33, 34, 35, 36, 37, 38, 39, 40, 41, 42, 43, 44, 45, 46, 47, 48, 49, 50, 51] _ s') ∧ (Hp w w' _) ∧ (s' 28 = I j) ∧ (0 ≤ j) ∧ (j ≤ i) ∧ (∀ b : Int, 0 ≤ b → b < j → bothB r i b = true)) (fun (j : Int) => (i - j).toNat) (0) ⟨Fr.refl _ _, hH13, rfl, (by omega), (by omega), fun b x y => absurd y (by omega)⟩ ?_
          rintro j sg16 w16 ⟨fr16, hH16, e28_16, j0, j1, hh⟩
          have e1_16 := (fr16 1 rfl).trans e1_13
          have e3_16 : sg16 3 = I _ := (fr16 3 rfl).trans rfl
          have e23_16 := (fr16 23 rfl).trans e23_13
          have e24_16 := (fr16 24 rfl).trans e24_13
          have e25_16 : sg16 25 = B _ := (fr16 25 rfl).trans rfl
          have e26_16 : sg16 26 = I _ := (fr16 26 rfl).trans rfl
          have e27_16 : sg16 27 = I _ := (fr16 27 rfl).trans rfl
          refine CW.seq ?_
          refine CW.region ?_
          refine RL.val rfl (run_lss e28_16 e27_16) ?_
          refine RL.nil ?_
          refine CW.seq ?_
          refine CW.condP rfl (fun h18 => ?_) (fun h18 => ?_)
          · refine CW.skip ?_
            refine CW.seq ?_
            refine CW.block ?_
            refine CW.seq ?_
            refine CW.region ?_
            refine RL.val rfl (run_move e28_16) ?_
            refine RL.val rfl (run_assign (v := I _) rfl) ?_
            refine RL.nil ?_
            refine CW.seq ?_
            refine CW.region ?_
            refine RL.val rfl (run_ldRel Tryd.underlying34 rfl rfl e1_16 (hH16.blk (i := 0) rfl)) ?_
            refine RL.val rfl (run_move e3_16) ?_
            refine RL.val rfl (run_move (v := I _) rfl) ?_
            refine RL.callP rfl hH16 (c_hasse_Join _ _ _  _ (hT.hp hH16)) (run_call3 Tryd.call44 rfl rfl rfl) ?_
            intro w19 hH20
            refine RL.val rfl (run_move (by conv => lhs; whnf)) ?_
            refine RL.val rfl (run_extract rfl (v := I _) rfl) ?_
            refine RL.val rfl (run_extract rfl (v := B _) rfl) ?_
            refine RL.val rfl (run_assign (v := I _) rfl) ?_
            refine RL.val rfl (run_assign (v := B _) rfl) ?_
            refine RL.nil ?_
            refine CW.seq ?_
            refine CW.region ?_
            refine RL.val rfl (run_ldRel Tryd.underlying34 rfl rfl e1_16 (hH20.blk (i := 0) rfl)) ?_
            refine RL.val rfl (run_move e3_16) ?_
            refine RL.val rfl (run_move (v := I _) rfl) ?_
            refine RL.callP rfl hH20 (c_hasse_Meet _ _ _  _ (hT.hp hH20)) (run_call3 Tryd.call55 rfl rfl rfl) ?_
            intro w22 hH23
            refine RL.val rfl (run_move (by conv => lhs; whnf)) ?_
            refine RL.val rfl (run_extract rfl (v := I _) rfl) ?_
            refine RL.val rfl (run_extract rfl (v := B _) rfl) ?_
            refine RL.val rfl (run_assign (v := I _) rfl) ?_
            refine RL.val rfl (run_assign (v := B _) rfl) ?_
            refine RL.nil ?_
            refine CW.seq ?_
            refine CW.region ?_
            refine RL.val rfl (run_move (v := B _) rfl) ?_
            refine RL.val rfl (run_not rfl) ?_
            refine RL.val rfl (run_move (v := B _) rfl) ?_
            refine RL.split (dj := 47) rfl (fun h26 => ?_) (fun h26 => ?_)
            · refine RL.gF rfl rfl (bR (c := true) h26) rfl ?_
              refine RL.gF rfl rfl (bR (c := true) h26) rfl ?_
              refine RL.val rfl (run_pickT (bR (c := true) h26) (v := B true) rfl) ?_
              refine RL.nil ?_
              refine CW.condT rfl ?_
              refine CW.seq ?_
              refine CW.region ?_
              refine RL.val rfl (run_assign (v := B false) rfl) ?_
              refine RL.nil ?_
              refine CW.ret ?_
              refine outP1 Tryd.results34 (congrArg B ?_) hH23.below
              first | exact (lat_no1 (by omega)).symm | exact (lat_no2 (nt ‹_›)).symm | exact (lat_no3 ‹i < r.n› j0 ‹j < i› (by rw [bothB, nt ‹(!(joinV r i j).2) = true›]; rfl)).symm | exact (lat_no3 ‹i < r.n› j0 ‹j < i› (by rw [bothB, nt ‹(!(meetV r i j).2) = true›]; simp)).symm | exact (lat_yes hn ho ‹_› hg).symm
            · refine RL.gT rfl (bR (c := false) h26) ?_
              refine RL.val rfl (run_move (v := B _) rfl) ?_
              refine RL.gT rfl (bR (c := false) h26) ?_
              refine RL.val rfl (run_not rfl) ?_
              refine RL.val rfl (run_pickF (bR (c := false) h26) (v := B _) rfl) ?_
              refine RL.nil ?_
              refine CW.cond rfl (fun h28 => ?_) (fun h28 => ?_)
              · refine CW.seq ?_
                refine CW.region ?_
                refine RL.val rfl (run_assign (v := B false) rfl) ?_
                refine RL.nil ?_
                refine CW.ret ?_
                refine outP1 Tryd.results34 (congrArg B ?_) hH23.below
                first | exact (lat_no1 (by omega)).symm | exact (lat_no2 (nt ‹_›)).symm | exact (lat_no3 ‹i < r.n› j0 ‹j < i› (by rw [bothB, nt ‹(!(joinV r i j).2) = true›]; rfl)).symm | exact (lat_no3 ‹i < r.n› j0 ‹j < i› (by rw [bothB, nt ‹(!(meetV r i j).2) = true›]; simp)).symm | exact (lat_yes hn ho ‹_› hg).symm
              · refine CW.skip ?_
                refine CW.region ?_
                refine RL.val rfl (run_add e28_16 rfl (by omega)) ?_
                refine RL.val rfl (run_move (v := I _) rfl) ?_
                refine RL.nil ?_
                refine ⟨j + 1, ?_, ((((((((((((((((((((((((((((fr16.u rfl).u rfl).u rfl).u rfl).u rfl).u rfl).u rfl).u rfl).u rfl).u rfl).u rfl).u rfl).u rfl).u rfl).u rfl).u rfl).u rfl).u rfl).u rfl).u rfl).u rfl).u rfl).u rfl).u rfl).u rfl).u rfl).u rfl).u rfl).u rfl, hH23, (congrArg I (by first | rfl | omega)), ?_, ?_, ?_⟩
                · ((try dsimp only); omega)
                · omega
                · omega
                · exact fun b x y => if e : b = j then e ▸ (by rw [bothB, Bool.and_eq_true]; exact ⟨nf ‹(!(joinV r i j).2) = false›, nf ‹(!(meetV r i j).2) = false›⟩) else hh b x (by omega)
          · refine CW.exit (id := 2) rfl ?_
            refine CW.region ?_
            refine RL.val rfl (run_add e24_16 rfl (by omega)) ?_
            refine RL.val rfl (run_move (v := I _) rfl) ?_
            refine RL.nil ?_
            refine ⟨i + 1, ?_, (((((((((fr13.u rfl).u rfl).u rfl).u rfl).u rfl).t fr16 rfl)).u rfl).u rfl).u rfl, hH16, (congrArg I (by first | rfl | omega)), ?_, ?_, ?_⟩
            · ((try dsimp only); omega)
            · omega
            · omega
            · exact fun a b x y z => if e : a = i then e ▸ hh b x (by omega) else hg a b x y (by omega)
        · refine CW.exit (id := 0) rfl ?_
          refine CW.seq ?_
          refine CW.region ?_
          refine RL.val rfl (run_assign (v := B true) rfl) ?_
          refine RL.nil ?_
          refine CW.ret ?_
          refine outP1 Tryd.results34 (congrArg B ?_) hH13.below
          first | exact (lat_no1 (by omega)).symm | exact (lat_no2 (nt ‹_›)).symm | exact (lat_no3 ‹i < r.n› j0 ‹j < i› (by rw [bothB, nt ‹(!(joinV r i j).2) = true›]; rfl)).symm | exact (lat_no3 ‹i < r.n› j0 ‹j < i› (by rw [bothB, nt ‹(!(meetV r i j).2) = true›]; simp)).symm | exact (lat_yes hn ho ‹_› hg).symm

theorem c_grid_Right (r : Rl) (w : World) : Calls Tryd.prog 33 #[.agg (relC r)] w (Pure (B (rightG r)) w) := by
  refine enter Tryd.func33 rfl Tryd.ntmps33 rfl ?_
  have hH := Hp.start w
  refine CW.seq ?_
  refine CW.region ?_
  refine RL.new rfl hH (f := fun b => (.pointer (some ⟨b, 0, none⟩))) (run_box (v := .agg _) rfl) ?_
  intro b3 w1 hH2
  refine RL.val rfl (run_assign (v := B false) rfl) ?_
  refine RL.nil ?_
  refine CW.seq ?_
  refine CW.region ?_
  refine RL.val rfl (run_fieldAddr Tryd.underlying34 rfl (off := 0) rfl Tryd.sizeOf3 (by decide) rfl) ?_
  refine RL.val rfl (run_ld Tryd.underlying3 rfl rfl (hH2.cell (i := 0) rfl (relC_N _))) ?_
  refine RL.val rfl (run_geq rfl rfl) ?_
  refine RL.val rfl (run_move (v := B _) rfl) ?_
  refine RL.splitP (dj := 6) rfl (fun h5 => ?_) (fun h5 => ?_)
  · refine RL.gT rfl (bT h5) ?_
    refine RL.val rfl (run_fieldAddr Tryd.underlying34 rfl (off := 0) rfl Tryd.sizeOf3 (by decide) rfl) ?_
    refine RL.gT rfl (bT h5) ?_
    refine RL.val rfl (run_ld Tryd.underlying3 rfl rfl (hH2.cell (i := 0) rfl (relC_N _))) ?_
    refine RL.gT rfl (bT h5) ?_
    refine RL.val rfl (run_leq rfl rfl) ?_
    refine RL.val rfl (run_pickT (bT h5) (v := B _) rfl) ?_
    refine RL.val rfl (run_move (v := B _) rfl) ?_
    refine RL.splitP (dj := 11) rfl (fun h7 => ?_) (fun h7 => ?_)
    · refine RL.gT rfl (bT h7) ?_
      refine RL.val rfl (run_ldRel Tryd.underlying34 rfl rfl rfl (hH2.blk (i := 0) rfl)) ?_
      refine RL.gT rfl (bT h7) ?_
      refine RL.callP rfl hH2 (c_relate_Closed _  _) (run_call1 Tryd.call53 rfl) ?_
      intro w8 hH9
      refine RL.val rfl (run_pickT (bT h7) (v := B _) rfl) ?_
      refine RL.val rfl (run_assign (v := B _) rfl) ?_
      refine RL.nil ?_
      refine CW.ret ?_
      refine outP1 Tryd.results33 (congrArg B ?_) hH9.below
      first | rw [rightG, decide_eq_false (show ¬ (1 ≤ r.n ∧ r.n ≤ 8) by omega), Bool.false_and] | rw [rightG, decide_eq_true (show 1 ≤ r.n ∧ r.n ≤ 8 by omega), Bool.true_and]
    · refine RL.gF rfl rfl (bF h7) rfl ?_
      refine RL.gF rfl rfl (bF h7) rfl ?_
      refine RL.val rfl (run_pickF (bF h7) (v := B false) rfl) ?_
      refine RL.val rfl (run_assign (v := B _) rfl) ?_
      refine RL.nil ?_
      refine CW.ret ?_
      refine outP1 Tryd.results33 (congrArg B ?_) hH2.below
      first | rw [rightG, decide_eq_false (show ¬ (1 ≤ r.n ∧ r.n ≤ 8) by omega), Bool.false_and] | rw [rightG, decide_eq_true (show 1 ≤ r.n ∧ r.n ≤ 8 by omega), Bool.true_and]
  · refine RL.gF rfl rfl (bF h5) rfl ?_
    refine RL.gF rfl rfl (bF h5) rfl ?_
    refine RL.gF rfl rfl (bF h5) rfl ?_
    refine RL.val rfl (run_pickF (bF h5) (v := B false) rfl) ?_
    refine RL.val rfl (run_move (v := B _) rfl) ?_
    refine RL.gF rfl rfl rfl rfl ?_
    refine RL.gF rfl rfl rfl rfl ?_
    refine RL.val rfl (run_pickF rfl (v := B false) rfl) ?_
    refine RL.val rfl (run_assign (v := B _) rfl) ?_
    refine RL.nil ?_
    refine CW.ret ?_
    refine outP1 Tryd.results33 (congrArg B ?_) hH2.below
    first | rw [rightG, decide_eq_false (show ¬ (1 ≤ r.n ∧ r.n ≤ 8) by omega), Bool.false_and] | rw [rightG, decide_eq_true (show 1 ≤ r.n ∧ r.n ≤ 8 by omega), Bool.true_and]

theorem c_grid_row (r : Rl) (s : BitVec 64) (o : Int) (ho : 0 ≤ o ∧ o < 8) (w : World) : Calls Tryd.prog 84 #[.agg (relC r), U s, I o] w (Pure (U (growG r s o)) w) := by
  refine enter Tryd.func84 rfl Tryd.ntmps84 rfl ?_
  have hH := Hp.start w
  refine CW.seq ?_
  refine CW.region ?_
  refine RL.new rfl hH (f := fun b => (.pointer (some ⟨b, 0, none⟩))) (run_box (v := .agg _) rfl) ?_
  intro b3 w1 hH2
  refine RL.val rfl (run_assign (v := U 0#64) rfl) ?_
  refine RL.nil ?_
  refine CW.seq ?_
  refine CW.region ?_
  refine RL.val rfl (run_move (v := U _) rfl) ?_
  refine RL.val rfl (run_move (v := I _) rfl) ?_
  refine RL.val rfl (run_mul rfl rfl (by omega)) ?_
  refine RL.val rfl (run_convIU Tryd.underlying3 Tryd.underlying81 rfl) ?_
  refine RL.val rfl (run_shrU rfl rfl) ?_
  refine RL.val rfl (run_fieldAddr Tryd.underlying34 rfl (off := 0) rfl Tryd.sizeOf3 (by decide) rfl) ?_
  refine RL.val rfl (run_ld Tryd.underlying3 rfl rfl (hH2.cell (i := 0) rfl (relC_N _))) ?_
  refine RL.callP rfl hH2 (c_mask_Below _  _) (run_call1 Tryd.call38 rfl) ?_
  intro w4 hH5
  refine RL.val rfl (run_andU rfl rfl) ?_
  refine RL.val rfl (run_assign (v := U _) rfl) ?_
  refine RL.nil ?_
  refine CW.ret ?_
  refine outP1 Tryd.results84 (congrArg U ?_) hH5.below
  rfl

theorem c_grid_rows (r : Rl) (f : FuncId) (cs : List Value) (ff : Int → BitVec 64) (hn : 1 ≤ r.n ∧ r.n ≤ 8) (w : World) (hf : ∀ args w, (callFunc f args).run Tryd.prog w = .ok (.enter f args) w) (go : ∀ i w', Below w.heap.size w w' → 0 ≤ i → i < r.n → Calls Tryd.prog f (I i :: cs).toArray w' (Pure (U (ff i)) w')) : Calls Tryd.prog 63 #[.agg (relC r), .func (.func f) #[] cs.toArray] w (Pure (U (rowsG ff r.n)) w) := by
  refine enter Tryd.func63 rfl Tryd.ntmps63 rfl ?_
  have hH := Hp.start w
  refine CW.seq ?_
  refine CW.region ?_
  refine RL.new rfl hH (f := fun b => (.pointer (some ⟨b, 0, none⟩))) (run_box (v := .agg _) rfl) ?_
  intro b3 w1 hH2
  refine RL.val rfl (run_assign (v := U 0#64) rfl) ?_
  refine RL.nil ?_
  refine CW.seq ?_
  refine CW.region ?_
  refine RL.val rfl (run_assign (v := U 0#64) rfl) ?_
  refine RL.nil ?_
  refine CW.seq ?_
  refine CW.seq ?_
  refine CW.region ?_
  refine RL.val rfl (run_fieldAddr Tryd.underlying34 rfl (off := 0) rfl Tryd.sizeOf3 (by decide) rfl) ?_
  refine RL.val rfl (run_ld Tryd.underlying3 rfl rfl (hH2.cell (i := 0) rfl (relC_N _))) ?_
  refine RL.val rfl (run_move (v := I 0) rfl) ?_
  refine RL.nil ?_
  refine CW.block ?_
  refine CW.loop (G := (Int)) (fun (k : Int) s' w' => (Fr [5, 6, 9, 10, 11, 12, 13, 14, 15, 16, 17, 18, 19, 20, 21] _ s') ∧ (Hp w w' _) ∧ (s' 5 = U (rowsG ff k)) ∧ (s' 9 = I k) ∧ (0 ≤ k) ∧ (k ≤ r.n)) (fun (k : Int) => (r.n - k).toNat) (0) ⟨Fr.refl _ _, hH2, rfl, rfl, (by omega), (by omega)⟩ ?_
  rintro k sg4 w4 ⟨fr4, hH4, e5_4, e9_4, h0, hk⟩
  have e1_4 : sg4 1 = .func _ _ _ := (fr4 1 rfl).trans rfl
  have e4_4 : sg4 4 = U _ := (fr4 4 rfl).trans rfl
  have e8_4 : sg4 8 = I _ := (fr4 8 rfl).trans rfl
  refine CW.seq ?_
  refine CW.region ?_
  refine RL.val rfl (run_lss e9_4 e8_4) ?_
  refine RL.nil ?_
  refine CW.seq ?_
  refine CW.condP rfl (fun h6 => ?_) (fun h6 => ?_)
  · refine CW.skip ?_
    refine CW.seq ?_
    refine CW.block ?_
    refine CW.seq ?_
    refine CW.region ?_
    refine RL.val rfl (run_move e9_4) ?_
    refine RL.val rfl (run_assign (v := I _) rfl) ?_
    refine RL.nil ?_
    refine CW.region ?_
    refine RL.val rfl (run_move e5_4) ?_
    refine RL.val rfl (run_move e1_4) ?_
    refine RL.val rfl (run_move (v := I _) rfl) ?_
    refine RL.callP rfl hH4 (go _ _ hH4.below (by omega) (by omega)) (run_callC1 hf (cs := cs) rfl rfl) ?_
    intro w7 hH8
    refine RL.val rfl (run_move (v := I _) rfl) ?_
    refine RL.val rfl (run_mul rfl rfl (by omega)) ?_
    refine RL.val rfl (run_convIU Tryd.underlying3 Tryd.underlying81 rfl) ?_
    refine RL.val rfl (run_shlU rfl rfl) ?_
    refine RL.val rfl (run_orU rfl rfl) ?_
    refine RL.val rfl (run_assign (v := U _) rfl) ?_
    refine RL.nil ?_
    refine CW.region ?_
    refine RL.val rfl (run_add e9_4 rfl (by omega)) ?_
    refine RL.val rfl (run_move (v := I _) rfl) ?_
    refine RL.nil ?_
    refine ⟨k + 1, ?_, ((((((((((((((fr4.u rfl).u rfl).u rfl).u rfl).u rfl).u rfl).u rfl).u rfl).u rfl).u rfl).u rfl).u rfl).u rfl).u rfl).u rfl, hH8, (congrArg U (rows_next h0)), (congrArg I (by first | rfl | omega)), ?_, ?_⟩
    · ((try dsimp only); omega)
    · omega
    · omega
  · refine CW.exit (id := 0) rfl ?_
    refine CW.seq ?_
    refine CW.region ?_
    refine RL.val rfl (run_move e5_4) ?_
    refine RL.val rfl (run_assign (v := U _) rfl) ?_
    refine RL.nil ?_
    refine CW.ret ?_
    refine outP1 Tryd.results63 (congrArg U ?_) hH4.below
    (rw [show k = r.n by omega])

theorem c_grid_Close_1 (b c : Nat) (r : Rl) (s : BitVec 64) (o : Int) (hr : rightG r = true) (w : World) (hb : w.heap[b]? = some (.cells (relC r) 34 (0, 0))) (hc : w.heap[c]? = some (.cells #[U s] 31 (0, 0))) (hT : Tab w) : Calls Tryd.prog 83 #[I o, .pointer (some ⟨b, 0, none⟩), .pointer (some ⟨c, 0, none⟩)] w (Pure (U (closeF r s o)) w) := by
  have hl := lst_len (upR r (ofl [o]))
  refine enter Tryd.func83 rfl Tryd.ntmps83 rfl ?_
  have hH := Hp.start w
  refine CW.seq ?_
  refine CW.region ?_
  refine RL.val rfl (run_assign (v := U 0#64) rfl) ?_
  refine RL.nil ?_
  refine CW.seq ?_
  refine CW.region ?_
  refine RL.val rfl (run_assign (v := U 0#64) rfl) ?_
  refine RL.nil ?_
  refine CW.seq ?_
  refine CW.seq ?_
  refine CW.regionD (by kernel_rfl) hH ?_
  intro w1 hH2
  refine AN.take 0 rfl rfl (by kernel_rfl) (by kernel_rfl) (by kernel_rfl) (hH2.sub (List.Sublist.refl _)) (fun w hS => run_ldRel Tryd.underlying34 rfl rfl rfl (hS.ext hb)) ?_
  refine AN.take 1 rfl rfl (by kernel_rfl) (by kernel_rfl) (by kernel_rfl) (hH2.sub (List.Sublist.refl _)) (fun w hS => run_move (v := I _) rfl) ?_
  refine AN.take 7 rfl rfl (by kernel_rfl) (by kernel_rfl) (by kernel_rfl) (hH2.sub (List.Sublist.refl _)) (fun w hS => run_move (v := I 0) rfl) ?_
  refine AN.one 2 (by kernel_rfl) ?_
  refine AO.new rfl gnone rfl hH2 (List.Sublist.refl _) (f := fun b => .slice (some ⟨b, 0, none⟩) 1 1) (run_mkL Tryd.underlying74 rfl rfl (sz := 1) (vs := [I _]) rfl rfl (by decide) (by decide) rfl rfl) ?_
  intro b5 w3 hH4
  (try simp only [List.flatMap_cons, List.flatMap_nil, clI, clB, clS, clP, clL, clA, List.append_nil, List.cons_append, List.nil_append] at hH4)
  have hH6 := hH4.blkRow 1 1 rfl (by decide)
  refine AN.one 3 (by kernel_rfl) ?_
  refine AO.callP rfl gnone rfl hH6 (.cons _ (List.Sublist.refl _)) (c_mask_Of _ [o] _ (hH6.sl (i := 0) rfl)) (run_call1 Tryd.call78 rfl) ?_
  intro w7 hH8
  refine AN.one 4 (by kernel_rfl) ?_
  refine AO.callP rfl gnone rfl hH8 (.cons _ (List.Sublist.refl _)) (c_relate_Up _ _  _ (hT.hp hH8)) (run_call2 Tryd.call79 rfl rfl) ?_
  intro w9 hH10
  refine AN.one 5 (by kernel_rfl) ?_
  refine AO.callR rfl gnone rfl hH10 (.cons _ (List.Sublist.refl _)) (c_mask_List _  _ (hT.hp hH10)) (run_call1 Tryd.call68 rfl) ?_
  intro v13 w11 hH12
  refine AN.one 6 (by kernel_rfl) ?_
  refine AO.read rfl gnone rfl hH12 (.cons _ (.cons _ (List.Sublist.refl _))) (run_lenSl (hH12.sl (i := 0) rfl) rfl Tryd.underlying74 rfl) ?_
  refine AN.done (by kernel_rfl) ?_
  refine CW.block ?_
  refine CW.loop (G := (Int)) (fun (k : Int) s' w' => (Fr [5, 7, 15, 16, 17, 18, 19, 20, 21, 22, 23, 24, 25, 26, 27] _ s') ∧ (Hp w w' _) ∧ (s' 5 = U (orAll (fun p => downR r (growG r s p)) ((lst (upR r (ofl [o]))).take k.toNat))) ∧ (s' 15 = I k) ∧ (0 ≤ k) ∧ (k ≤ (lst (upR r (ofl [o]))).length)) (fun (k : Int) => ((lst (upR r (ofl [o]))).length - k).toNat) (0) ⟨Fr.refl _ _, hH12, (congrArg U (by simp [orAll])), rfl, (by omega), (by omega)⟩ ?_
  rintro k sg16 w16 ⟨fr16, hH16, e5_16, e15_16, h0, hk⟩
  have e1_16 := (fr16 1 rfl).trans (by conv => lhs; whnf)
  have e2_16 := (fr16 2 rfl).trans (by conv => lhs; whnf)
  have e4_16 : sg16 4 = U _ := (fr16 4 rfl).trans rfl
  have e13_16 := (fr16 13 rfl).trans (by conv => lhs; whnf)
  have e14_16 : sg16 14 = I _ := (fr16 14 rfl).trans rfl
  refine CW.seq ?_
  refine CW.region ?_
  refine RL.val rfl (run_lss e15_16 e14_16) ?_
  refine RL.nil ?_
  refine CW.seq ?_
  refine CW.condP rfl (fun h18 => ?_) (fun h18 => ?_)
  · refine CW.skip ?_
    refine CW.seq ?_
    refine CW.block ?_
    refine CW.seq ?_
    refine CW.region ?_
    refine RL.val rfl (run_indexAddrS (hH16.sl (i := 0) rfl) Tryd.underlying74 Tryd.sizeOf3 e13_16 e15_16 (by omega)) ?_
    refine RL.val rfl (run_ld Tryd.underlying3 rfl rfl ((hH16.sl (i := 0) rfl).cell _ _ (map_at (by omega)))) ?_
    refine RL.val rfl (run_assign (v := I _) rfl) ?_
    refine RL.nil ?_
    refine CW.regionD (by kernel_rfl) hH16 ?_
    intro w19 hH20
    refine AN.take 0 rfl rfl (by kernel_rfl) (by kernel_rfl) (by kernel_rfl) (hH20.sub (List.Sublist.refl _)) (fun w hS => run_move e5_16) ?_
    refine AN.take 1 rfl rfl (by kernel_rfl) (by kernel_rfl) (by kernel_rfl) (hH20.sub (List.Sublist.refl _)) (fun w hS => run_ldRel Tryd.underlying34 rfl rfl e1_16 (hS.ext hb)) ?_
    refine AN.take 2 rfl rfl (by kernel_rfl) (by kernel_rfl) (by kernel_rfl) (hH20.sub (List.Sublist.refl _)) (fun w hS => run_ldRel Tryd.underlying34 rfl rfl e1_16 (hS.ext hb)) ?_
    refine AN.take 3 rfl rfl (by kernel_rfl) (by kernel_rfl) (by kernel_rfl) (hH20.sub (List.Sublist.refl _)) (fun w hS => run_ld Tryd.underlying31 rfl e2_16 (hS.extCell hc (v := U _) rfl)) ?_
    refine AN.take 4 rfl rfl (by kernel_rfl) (by kernel_rfl) (by kernel_rfl) (hH20.sub (List.Sublist.refl _)) (fun w hS => run_move (v := I _) rfl) ?_
    refine AN.one 5 (by kernel_rfl) ?_
    refine AO.callP rfl gnone rfl hH20 (List.Sublist.refl _) (c_grid_row _ _ _ (above_lt hr (lst_at h0 ‹_›)) _) (run_call3 Tryd.call84 rfl rfl rfl) ?_
    intro w21 hH22
    refine AN.one 6 (by kernel_rfl) ?_
    refine AO.callP rfl gnone rfl hH22 (List.Sublist.refl _) (c_relate_Down _ _  _) (run_call2 Tryd.call81 rfl rfl) ?_
    intro w23 hH24
    refine AN.take 7 rfl rfl (by kernel_rfl) (by kernel_rfl) (by kernel_rfl) (hH24.sub (List.Sublist.refl _)) (fun w hS => run_orU rfl rfl) ?_
    refine AN.take 8 rfl rfl (by kernel_rfl) (by kernel_rfl) (by kernel_rfl) (hH24.sub (List.Sublist.refl _)) (fun w hS => run_assign (v := U _) rfl) ?_
    refine AN.done (by kernel_rfl) ?_
    refine CW.region ?_
    refine RL.val rfl (run_add e15_16 rfl (by omega)) ?_
    refine RL.val rfl (run_move (v := I _) rfl) ?_
    refine RL.nil ?_
    refine ⟨k + 1, ?_, ((((((((((((((fr16.u rfl).u rfl).u rfl).u rfl).u rfl).u rfl).u rfl).u rfl).u rfl).u rfl).u rfl).u rfl).u rfl).u rfl).u rfl, hH24, (congrArg U (orAll_next (f := fun p => downR r (growG r s p)) h0 ‹_›)), (congrArg I (by first | rfl | omega)), ?_, ?_⟩
    · ((try dsimp only); omega)
    · omega
    · omega
  · refine CW.exit (id := 0) rfl ?_
    refine CW.seq ?_
    refine CW.region ?_
    refine RL.val rfl (run_move e5_16) ?_
    refine RL.val rfl (run_assign (v := U _) rfl) ?_
    refine RL.nil ?_
    refine CW.ret ?_
    refine outP1 Tryd.results83 (congrArg U ?_) hH16.below
    (rw [take_all ‹_›]; rfl)

theorem c_grid_Close (r : Rl) (s : BitVec 64) (w : World) (hT : Tab w) : Calls Tryd.prog 60 #[.agg (relC r), U s] w (Pure (U (closeG r s)) w) := by
  refine enter Tryd.func60 rfl Tryd.ntmps60 rfl ?_
  have hH := Hp.start w
  refine CW.seq ?_
  refine CW.region ?_
  refine RL.new rfl hH (f := fun b => (.pointer (some ⟨b, 0, none⟩))) (run_box (v := .agg _) rfl) ?_
  intro b3 w1 hH2
  refine RL.new rfl hH2 (f := fun b => (.pointer (some ⟨b, 0, none⟩))) (run_box (v := U _) rfl) ?_
  intro b6 w4 hH5
  refine RL.val rfl (run_assign (v := U 0#64) rfl) ?_
  refine RL.nil ?_
  refine CW.seq ?_
  refine CW.seq ?_
  refine CW.region ?_
  refine RL.val rfl (run_ldRel Tryd.underlying34 rfl rfl rfl (hH5.blk (i := 1) rfl)) ?_
  refine RL.callP rfl hH5 (c_grid_Right _  _) (run_call1 Tryd.call33 rfl) ?_
  intro w7 hH8
  refine RL.val rfl (run_not rfl) ?_
  refine RL.nil ?_
  refine CW.cond rfl (fun h11 => ?_) (fun h11 => ?_)
  · refine CW.seq ?_
    refine CW.region ?_
    refine RL.val rfl (run_assign (v := U 0#64) rfl) ?_
    refine RL.nil ?_
    refine CW.ret ?_
    refine outP1 Tryd.results60 (congrArg U ?_) hH8.below
    first | exact (close_no (nt ‹_›)).symm | exact close_yes (nf ‹_›)
  · refine CW.skip ?_
    refine CW.seq ?_
    refine CW.region ?_
    refine RL.val rfl (run_ldRel Tryd.underlying34 rfl rfl rfl (hH8.blk (i := 1) rfl)) ?_
    refine RL.val rfl (run_mkF2 (by conv => lhs; whnf) (by conv => lhs; whnf)) ?_
    refine RL.callP rfl hH8 (c_grid_rows r 83 [.pointer (some ⟨b3, 0, none⟩), .pointer (some ⟨b6, 0, none⟩)] (closeF r s) (right_spec (nf ‹(!rightG r) = false›)).1 _ Tryd.call83 (fun i w h _ _ => c_grid_Close_1 b3 b6 r s i (nf ‹(!rightG r) = false›) w (keep h (hH8.blk (i := 1) rfl)) (keep h (hH8.blk (i := 0) rfl)) ((hT.hp hH8).below h))) (run_call2 Tryd.call63 rfl rfl) ?_
    intro w12 hH13
    refine RL.val rfl (run_assign (v := U _) rfl) ?_
    refine RL.nil ?_
    refine CW.ret ?_
    refine outP1 Tryd.results60 (congrArg U ?_) hH13.below
    first | exact (close_no (nt ‹_›)).symm | exact close_yes (nf ‹_›)

theorem c_grid_Closed (r : Rl) (s : BitVec 64) (w : World) (hT : Tab w) : Calls Tryd.prog 39 #[.agg (relC r), U s] w (Pure (B (closedG r s)) w) := by
  refine enter Tryd.func39 rfl Tryd.ntmps39 rfl ?_
  have hH := Hp.start w
  refine CW.seq ?_
  refine CW.region ?_
  refine RL.new rfl hH (f := fun b => (.pointer (some ⟨b, 0, none⟩))) (run_box (v := .agg _) rfl) ?_
  intro b3 w1 hH2
  refine RL.val rfl (run_assign (v := B false) rfl) ?_
  refine RL.nil ?_
  refine CW.seq ?_
  refine CW.region ?_
  refine RL.val rfl (run_ldRel Tryd.underlying34 rfl rfl rfl (hH2.blk (i := 0) rfl)) ?_
  refine RL.callP rfl hH2 (c_grid_Right _  _) (run_call1 Tryd.call33 rfl) ?_
  intro w4 hH5
  refine RL.val rfl (run_move (v := B _) rfl) ?_
  refine RL.split (dj := 7) rfl (fun h7 => ?_) (fun h7 => ?_)
  · refine RL.gT rfl (bR (c := true) h7) ?_
    refine RL.val rfl (run_ldRel Tryd.underlying34 rfl rfl rfl (hH5.blk (i := 0) rfl)) ?_
    refine RL.gT rfl (bR (c := true) h7) ?_
    refine RL.val rfl (run_move (v := U _) rfl) ?_
    refine RL.gT rfl (bR (c := true) h7) ?_
    refine RL.callP rfl hH5 (c_grid_Close _ _  _ (hT.hp hH5)) (run_call2 Tryd.call60 rfl rfl) ?_
    intro w8 hH9
    refine RL.gT rfl (bR (c := true) h7) ?_
    refine RL.val rfl (run_move (v := U _) rfl) ?_
    refine RL.gT rfl (bR (c := true) h7) ?_
    refine RL.val rfl (run_eqlU rfl rfl) ?_
    refine RL.val rfl (run_pickT (bR (c := true) h7) (v := B _) rfl) ?_
    refine RL.val rfl (run_assign (v := B _) rfl) ?_
    refine RL.nil ?_
    refine CW.ret ?_
    refine outP1 Tryd.results39 (congrArg B ?_) hH9.below
    first | (rw [closedG, ‹rightG r = false›]; rfl) | (rw [closedG, ‹rightG r = true›]; rfl)
  · refine RL.gF rfl rfl (bR (c := false) h7) rfl ?_
    refine RL.gF rfl rfl (bR (c := false) h7) rfl ?_
    refine RL.gF rfl rfl (bR (c := false) h7) rfl ?_
    refine RL.gF rfl rfl (bR (c := false) h7) rfl ?_
    refine RL.gF rfl rfl (bR (c := false) h7) rfl ?_
    refine RL.val rfl (run_pickF (bR (c := false) h7) (v := B false) rfl) ?_
    refine RL.val rfl (run_assign (v := B _) rfl) ?_
    refine RL.nil ?_
    refine CW.ret ?_
    refine outP1 Tryd.results39 (congrArg B ?_) hH5.below
    first | (rw [closedG, ‹rightG r = false›]; rfl) | (rw [closedG, ‹rightG r = true›]; rfl)

theorem c_grid_Top_1 (b : Nat) (r : Rl) (i : Int) (w : World) (hb : w.heap[b]? = some (.cells (relC r) 34 (0, 0))) : Calls Tryd.prog 64 #[I i, .pointer (some ⟨b, 0, none⟩)] w (Pure (U (below r.n)) w) := by
  refine enter Tryd.func64 rfl Tryd.ntmps64 rfl ?_
  have hH := Hp.start w
  refine CW.seq ?_
  refine CW.region ?_
  refine RL.val rfl (run_assign (v := U 0#64) rfl) ?_
  refine RL.nil ?_
  refine CW.seq ?_
  refine CW.region ?_
  refine RL.val rfl (run_fieldAddr Tryd.underlying34 rfl (off := 0) rfl Tryd.sizeOf3 (by decide) rfl) ?_
  refine RL.val rfl (run_ld Tryd.underlying3 rfl rfl (hH.extCell hb (relC_N _))) ?_
  refine RL.callP rfl hH (c_mask_Below _  _) (run_call1 Tryd.call38 rfl) ?_
  intro w1 hH2
  refine RL.val rfl (run_assign (v := U _) rfl) ?_
  refine RL.nil ?_
  refine CW.ret ?_
  refine outP1 Tryd.results64 (congrArg U ?_) hH2.below
  rfl

theorem c_grid_Top (r : Rl) (w : World) : Calls Tryd.prog 42 #[.agg (relC r)] w (Pure (U (topG r)) w) := by
  refine enter Tryd.func42 rfl Tryd.ntmps42 rfl ?_
  have hH := Hp.start w
  refine CW.seq ?_
  refine CW.region ?_
  refine RL.new rfl hH (f := fun b => (.pointer (some ⟨b, 0, none⟩))) (run_box (v := .agg _) rfl) ?_
  intro b3 w1 hH2
  refine RL.val rfl (run_assign (v := U 0#64) rfl) ?_
  refine RL.nil ?_
  refine CW.seq ?_
  refine CW.seq ?_
  refine CW.region ?_
  refine RL.val rfl (run_ldRel Tryd.underlying34 rfl rfl rfl (hH2.blk (i := 0) rfl)) ?_
  refine RL.callP rfl hH2 (c_grid_Right _  _) (run_call1 Tryd.call33 rfl) ?_
  intro w4 hH5
  refine RL.val rfl (run_not rfl) ?_
  refine RL.nil ?_
  refine CW.cond rfl (fun h8 => ?_) (fun h8 => ?_)
  · refine CW.seq ?_
    refine CW.region ?_
    refine RL.val rfl (run_assign (v := U 0#64) rfl) ?_
    refine RL.nil ?_
    refine CW.ret ?_
    refine outP1 Tryd.results42 (congrArg U ?_) hH5.below
    first | exact (top_no (nt ‹_›)).symm | exact top_yes (nf ‹_›)
  · refine CW.skip ?_
    refine CW.seq ?_
    refine CW.region ?_
    refine RL.val rfl (run_ldRel Tryd.underlying34 rfl rfl rfl (hH5.blk (i := 0) rfl)) ?_
    refine RL.val rfl (run_mkF1 (by conv => lhs; whnf)) ?_
    refine RL.callP rfl hH5 (c_grid_rows r 64 [.pointer (some ⟨b3, 0, none⟩)] (fun _ => below r.n) (right_spec (nf ‹(!rightG r) = false›)).1 _ Tryd.call64 (fun i w h _ _ => c_grid_Top_1 b3 r i w (keep h (hH5.blk (i := 0) rfl)))) (run_call2 Tryd.call63 rfl rfl) ?_
    intro w9 hH10
    refine RL.val rfl (run_assign (v := U _) rfl) ?_
    refine RL.nil ?_
    refine CW.ret ?_
    refine outP1 Tryd.results42 (congrArg U ?_) hH10.below
    first | exact (top_no (nt ‹_›)).symm | exact top_yes (nf ‹_›)

theorem c_grid_Height (r : Rl) (w : World) (hT : Tab w) : Calls Tryd.prog 45 #[.agg (relC r)] w (Pure (I (heightG r)) w) := by
  refine enter Tryd.func45 rfl Tryd.ntmps45 rfl ?_
  have hH := Hp.start w
  refine CW.seq ?_
  refine CW.region ?_
  refine RL.new rfl hH (f := fun b => (.pointer (some ⟨b, 0, none⟩))) (run_box (v := .agg _) rfl) ?_
  intro b3 w1 hH2
  refine RL.val rfl (run_assign (v := I 0) rfl) ?_
  refine RL.nil ?_
  refine CW.seq ?_
  refine CW.seq ?_
  refine CW.region ?_
  refine RL.val rfl (run_ldRel Tryd.underlying34 rfl rfl rfl (hH2.blk (i := 0) rfl)) ?_
  refine RL.callP rfl hH2 (c_grid_Right _  _) (run_call1 Tryd.call33 rfl) ?_
  intro w4 hH5
  refine RL.val rfl (run_not rfl) ?_
  refine RL.nil ?_
  refine CW.cond rfl (fun h8 => ?_) (fun h8 => ?_)
  · refine CW.seq ?_
    refine CW.region ?_
    refine RL.val rfl (run_assign (v := I 0) rfl) ?_
    refine RL.nil ?_
    refine CW.ret ?_
    refine outP1 Tryd.results45 (congrArg I ?_) hH5.below
    first | exact (height_no (nt ‹_›)).symm | exact height_yes (nf ‹_›)
  · refine CW.skip ?_
    refine CW.seq ?_
    refine CW.region ?_
    refine RL.val rfl (run_ldRel Tryd.underlying34 rfl rfl rfl (hH5.blk (i := 0) rfl)) ?_
    refine RL.callP rfl hH5 (c_relate_Classes _  _ (hT.hp hH5)) (run_call1 Tryd.call66 rfl) ?_
    intro w9 hH10
    refine RL.val rfl (run_assign (v := I _) rfl) ?_
    refine RL.nil ?_
    refine CW.seq ?_
    refine CW.region ?_
    refine RL.val rfl (run_move (v := I _) rfl) ?_
    refine RL.val rfl (run_move (v := I _) rfl) ?_
    refine RL.val rfl (run_mul rfl rfl (by exact cls_sq (nf ‹_›))) ?_
    refine RL.val rfl (run_assign (v := I _) rfl) ?_
    refine RL.nil ?_
    refine CW.ret ?_
    refine outP1 Tryd.results45 (congrArg I ?_) hH10.below
    first | exact (height_no (nt ‹_›)).symm | exact height_yes (nf ‹_›)

theorem c_name_letter (c : Int) (w : World) : Calls Tryd.prog 73 #[.int .u8 c] w (Pure (B (letterB c)) w) := by
  refine enter Tryd.func73 rfl Tryd.ntmps73 rfl ?_
  have hH := Hp.start w
  refine CW.seq ?_
  refine CW.region ?_
  refine RL.val rfl (run_assign (v := B false) rfl) ?_
  refine RL.nil ?_
  refine CW.seq ?_
  refine CW.region ?_
  refine RL.val rfl (run_move (v := .int _ _) rfl) ?_
  refine RL.val rfl (run_geq rfl rfl) ?_
  refine RL.val rfl (run_move (v := B _) rfl) ?_
  refine RL.splitP (dj := 5) rfl (fun h2 => ?_) (fun h2 => ?_)
  · refine RL.gT rfl (bT h2) ?_
    refine RL.val rfl (run_move (v := .int _ _) rfl) ?_
    refine RL.gT rfl (bT h2) ?_
    refine RL.val rfl (run_leq rfl rfl) ?_
    refine RL.val rfl (run_pickT (bT h2) (v := B _) rfl) ?_
    refine RL.val rfl (run_assign (v := B _) rfl) ?_
    refine RL.nil ?_
    refine CW.ret ?_
    refine outP1 Tryd.results73 (congrArg B ?_) hH.below
    (rw [letterB, Bool.eq_iff_iff]; simp only [decide_eq_true_eq, Bool.false_eq_true, false_iff]; omega)
  · refine RL.gF rfl rfl (bF h2) rfl ?_
    refine RL.gF rfl rfl (bF h2) rfl ?_
    refine RL.val rfl (run_pickF (bF h2) (v := B false) rfl) ?_
    refine RL.val rfl (run_assign (v := B _) rfl) ?_
    refine RL.nil ?_
    refine CW.ret ?_
    refine outP1 Tryd.results73 (congrArg B ?_) hH.below
    (rw [letterB, Bool.eq_iff_iff]; simp only [decide_eq_true_eq, Bool.false_eq_true, false_iff]; omega)

theorem c_name_goes (c : Int) (w : World) : Calls Tryd.prog 74 #[.int .u8 c] w (Pure (B (goesB c)) w) := by
  refine enter Tryd.func74 rfl Tryd.ntmps74 rfl ?_
  have hH := Hp.start w
  refine CW.seq ?_
  refine CW.region ?_
  refine RL.val rfl (run_assign (v := B false) rfl) ?_
  refine RL.nil ?_
  refine CW.seq ?_
  refine CW.region ?_
  refine RL.val rfl (run_move (v := .int _ _) rfl) ?_
  refine RL.callP rfl hH (c_name_letter _  _) (run_call1 Tryd.call73 rfl) ?_
  intro w1 hH2
  refine RL.val rfl (run_move (v := B _) rfl) ?_
  refine RL.split (dj := 5) rfl (fun h4 => ?_) (fun h4 => ?_)
  · refine RL.gF rfl rfl (bR (c := true) h4) rfl ?_
    refine RL.gF rfl rfl (bR (c := true) h4) rfl ?_
    refine RL.gF rfl rfl (bR (c := true) h4) rfl ?_
    refine RL.gU rfl rfl rfl ?_
    refine RL.gU rfl rfl rfl ?_
    refine RL.gF rfl rfl (bR (c := true) h4) rfl ?_
    refine RL.val rfl (run_pickT (bR (c := true) h4) (v := B true) rfl) ?_
    refine RL.val rfl (run_move (v := B _) rfl) ?_
    refine RL.gF rfl rfl rfl rfl ?_
    refine RL.gF rfl rfl rfl rfl ?_
    refine RL.val rfl (run_pickT rfl (v := B true) rfl) ?_
    refine RL.val rfl (run_assign (v := B _) rfl) ?_
    refine RL.nil ?_
    refine CW.ret ?_
    refine outP1 Tryd.results74 (congrArg B ?_) hH2.below
    first | exact (goes_letter ‹_›).symm | (have hlc := ‹letterB c = false›; rw [letterB, decide_eq_false_iff_not] at hlc; rw [goesB, Bool.eq_iff_iff]; simp only [decide_eq_true_eq, Bool.false_eq_true, false_iff, true_iff]; omega)
  · refine RL.gT rfl (bR (c := false) h4) ?_
    refine RL.val rfl (run_move (v := .int _ _) rfl) ?_
    refine RL.gT rfl (bR (c := false) h4) ?_
    refine RL.val rfl (run_geq rfl rfl) ?_
    refine RL.gT rfl (bR (c := false) h4) ?_
    refine RL.val rfl (run_move (v := B _) rfl) ?_
    refine RL.splitP (dj := 8) rfl (fun h6 => ?_) (fun h6 => ?_)
    · refine RL.gT rfl (bT h6) ?_
      refine RL.val rfl (run_move (v := .int _ _) rfl) ?_
      refine RL.gT rfl (bT h6) ?_
      refine RL.val rfl (run_leq rfl rfl) ?_
      refine RL.gT rfl (bR (c := false) h4) ?_
      refine RL.val rfl (run_pickT (bT h6) (v := B _) rfl) ?_
      refine RL.val rfl (run_pickF (bR (c := false) h4) (v := B _) rfl) ?_
      refine RL.val rfl (run_move (v := B _) rfl) ?_
      refine RL.splitP (dj := 13) rfl (fun h8 => ?_) (fun h8 => ?_)
      · refine RL.gF rfl rfl (bT h8) rfl ?_
        refine RL.gF rfl rfl (bT h8) rfl ?_
        refine RL.val rfl (run_pickT (bT h8) (v := B true) rfl) ?_
        refine RL.val rfl (run_assign (v := B _) rfl) ?_
        refine RL.nil ?_
        refine CW.ret ?_
        refine outP1 Tryd.results74 (congrArg B ?_) hH2.below
        first | exact (goes_letter ‹_›).symm | (have hlc := ‹letterB c = false›; rw [letterB, decide_eq_false_iff_not] at hlc; rw [goesB, Bool.eq_iff_iff]; simp only [decide_eq_true_eq, Bool.false_eq_true, false_iff, true_iff]; omega)
      · refine RL.gT rfl (bF h8) ?_
        refine RL.val rfl (run_move (v := .int _ _) rfl) ?_
        refine RL.gT rfl (bF h8) ?_
        refine RL.val rfl (run_eql rfl rfl) ?_
        refine RL.val rfl (run_pickF (bF h8) (v := B _) rfl) ?_
        refine RL.val rfl (run_assign (v := B _) rfl) ?_
        refine RL.nil ?_
        refine CW.ret ?_
        refine outP1 Tryd.results74 (congrArg B ?_) hH2.below
        first | exact (goes_letter ‹_›).symm | (have hlc := ‹letterB c = false›; rw [letterB, decide_eq_false_iff_not] at hlc; rw [goesB, Bool.eq_iff_iff]; simp only [decide_eq_true_eq, Bool.false_eq_true, false_iff, true_iff]; omega)
    · refine RL.gF rfl rfl (bF h6) rfl ?_
      refine RL.gF rfl rfl (bF h6) rfl ?_
      refine RL.gT rfl (bR (c := false) h4) ?_
      refine RL.val rfl (run_pickF (bF h6) (v := B false) rfl) ?_
      refine RL.val rfl (run_pickF (bR (c := false) h4) (v := B _) rfl) ?_
      refine RL.val rfl (run_move (v := B _) rfl) ?_
      refine RL.gT rfl rfl ?_
      refine RL.val rfl (run_move (v := .int _ _) rfl) ?_
      refine RL.gT rfl rfl ?_
      refine RL.val rfl (run_eql rfl rfl) ?_
      refine RL.val rfl (run_pickF rfl (v := B _) rfl) ?_
      refine RL.val rfl (run_assign (v := B _) rfl) ?_
      refine RL.nil ?_
      refine CW.ret ?_
      refine outP1 Tryd.results74 (congrArg B ?_) hH2.below
      first | exact (goes_letter ‹_›).symm | (have hlc := ‹letterB c = false›; rw [letterB, decide_eq_false_iff_not] at hlc; rw [goesB, Bool.eq_iff_iff]; simp only [decide_eq_true_eq, Bool.false_eq_true, false_iff, true_iff]; omega)

theorem c_name_Right (s : Tx) (w : World) : Calls Tryd.prog 51 #[S s] w (Pure (B (nameR s)) w) := by
  have htx := @tx_nil s
  refine enter Tryd.func51 rfl Tryd.ntmps51 rfl ?_
  have hH := Hp.start w
  refine CW.seq ?_
  refine CW.region ?_
  refine RL.val rfl (run_assign (v := B false) rfl) ?_
  refine RL.nil ?_
  refine CW.seq ?_
  refine CW.seq ?_
  refine CW.region ?_
  refine RL.val rfl (run_move (v := .string _) rfl) ?_
  refine RL.val rfl (run_eqlS rfl rfl) ?_
  refine RL.val rfl (run_move (v := B _) rfl) ?_
  refine RL.splitP (dj := 6) rfl (fun h2 => ?_) (fun h2 => ?_)
  · refine RL.gF rfl rfl (bT h2) rfl ?_
    refine RL.gF rfl rfl (bT h2) rfl ?_
    refine RL.gF rfl rfl (bT h2) rfl ?_
    refine RL.val rfl (run_pickT (bT h2) (v := B true) rfl) ?_
    refine RL.val rfl (run_move (v := B _) rfl) ?_
    refine RL.gF rfl rfl rfl rfl ?_
    refine RL.gF rfl rfl rfl rfl ?_
    refine RL.gF rfl rfl rfl rfl ?_
    refine RL.gF rfl rfl rfl rfl ?_
    refine RL.val rfl (run_pickT rfl (v := B true) rfl) ?_
    refine RL.nil ?_
    refine CW.condT rfl ?_
    refine CW.seq ?_
    refine CW.region ?_
    refine RL.val rfl (run_assign (v := B false) rfl) ?_
    refine RL.nil ?_
    refine CW.ret ?_
    refine outP1 Tryd.results51 (congrArg B ?_) hH.below
    first | exact (nameR_no1 (by first | omega | (have := htx.1 ‹s = tx0›; omega))).symm | exact (nameR_no2 (nt ‹_›)).symm | exact (nameR_no3 h0 ‹_› (nt ‹_›)).symm | exact (nameR_yes hsz (nf ‹_›) ‹_› hf).symm
  · refine RL.gT rfl (bF h2) ?_
    refine RL.val rfl (run_move (v := .string _) rfl) ?_
    refine RL.gT rfl (bF h2) ?_
    refine RL.val rfl (run_lenStr rfl Tryd.underlying9 rfl) ?_
    refine RL.gT rfl (bF h2) ?_
    refine RL.val rfl (run_gtr rfl rfl) ?_
    refine RL.val rfl (run_pickF (bF h2) (v := B _) rfl) ?_
    refine RL.val rfl (run_move (v := B _) rfl) ?_
    refine RL.splitP (dj := 11) rfl (fun h4 => ?_) (fun h4 => ?_)
    · refine RL.gF rfl rfl (bT h4) rfl ?_
      refine RL.gF rfl rfl (bT h4) rfl ?_
      refine RL.gF rfl rfl (bT h4) rfl ?_
      refine RL.gF rfl rfl (bT h4) rfl ?_
      refine RL.val rfl (run_pickT (bT h4) (v := B true) rfl) ?_
      refine RL.nil ?_
      refine CW.condT rfl ?_
      refine CW.seq ?_
      refine CW.region ?_
      refine RL.val rfl (run_assign (v := B false) rfl) ?_
      refine RL.nil ?_
      refine CW.ret ?_
      refine outP1 Tryd.results51 (congrArg B ?_) hH.below
      first | exact (nameR_no1 (by first | omega | (have := htx.1 ‹s = tx0›; omega))).symm | exact (nameR_no2 (nt ‹_›)).symm | exact (nameR_no3 h0 ‹_› (nt ‹_›)).symm | exact (nameR_yes hsz (nf ‹_›) ‹_› hf).symm
    · refine RL.gT rfl (bF h4) ?_
      refine RL.val rfl (run_move (v := .string _) rfl) ?_
      refine RL.gT rfl (bF h4) ?_
      refine RL.val rfl (run_idxS Tryd.underlying9 rfl rfl (by first | omega | (have := mt htx.2 ‹¬ s = tx0›; omega))) ?_
      refine RL.gT rfl (bF h4) ?_
      refine RL.callP rfl hH (c_name_letter _  _) (run_call1 Tryd.call73 rfl) ?_
      intro w5 hH6
      refine RL.gT rfl (bF h4) ?_
      refine RL.val rfl (run_not rfl) ?_
      refine RL.val rfl (run_pickF (bF h4) (v := B _) rfl) ?_
      refine RL.nil ?_
      refine CW.cond rfl (fun h9 => ?_) (fun h9 => ?_)
      · refine CW.seq ?_
        refine CW.region ?_
        refine RL.val rfl (run_assign (v := B false) rfl) ?_
        refine RL.nil ?_
        refine CW.ret ?_
        refine outP1 Tryd.results51 (congrArg B ?_) hH6.below
        first | exact (nameR_no1 (by first | omega | (have := htx.1 ‹s = tx0›; omega))).symm | exact (nameR_no2 (nt ‹_›)).symm | exact (nameR_no3 h0 ‹_› (nt ‹_›)).symm | exact (nameR_yes hsz (nf ‹_›) ‹_› hf).symm
      · refine CW.skip ?_
        refine CW.seq ?_
        refine CW.seq ?_
        refine CW.region ?_
        refine RL.val rfl (run_move (v := .string _) rfl) ?_
        refine RL.val rfl (run_lenStr rfl Tryd.underlying9 rfl) ?_
        refine RL.val rfl (run_move (v := I 0) rfl) ?_
        refine RL.nil ?_
        refine CW.block ?_
        have hsz : 1 ≤ s.size ∧ s.size ≤ 16 := ⟨by have := mt htx.2 ‹¬ s = tx0›; omega, by omega⟩
        refine CW.loop (G := (Int)) (fun (k : Int) s' w' => (Fr [2, 3, 19, 20, 21, 22, 23, 24, 25, 26, 27] _ s') ∧ (Hp w w' _) ∧ (s' 19 = I k) ∧ (0 ≤ k) ∧ (k ≤ s.size) ∧ (∀ j : Int, 0 ≤ j → j < k → goesB (byteAt s j) = true)) (fun (k : Int) => (s.size - k).toNat) (0) ⟨Fr.refl _ _, hH6, rfl, (by omega), (by omega), fun j a b => absurd b (by omega)⟩ ?_
        rintro k sg10 w10 ⟨fr10, hH10, e19_10, h0, hk, hf⟩
        have e0_10 : sg10 0 = .string _ := (fr10 0 rfl).trans rfl
        have e18_10 : sg10 18 = I _ := (fr10 18 rfl).trans rfl
        refine CW.seq ?_
        refine CW.region ?_
        refine RL.val rfl (run_lss e19_10 e18_10) ?_
        refine RL.nil ?_
        refine CW.seq ?_
        refine CW.condP rfl (fun h12 => ?_) (fun h12 => ?_)
        · refine CW.skip ?_
          refine CW.seq ?_
          refine CW.block ?_
          refine CW.seq ?_
          refine CW.region ?_
          refine RL.val rfl (run_move e19_10) ?_
          refine RL.val rfl (run_assign (v := I _) rfl) ?_
          refine RL.nil ?_
          refine CW.seq ?_
          refine CW.region ?_
          refine RL.val rfl (run_move e0_10) ?_
          refine RL.val rfl (run_move (v := I _) rfl) ?_
          refine RL.val rfl (run_idxS Tryd.underlying9 rfl rfl (by first | omega | (have := mt htx.2 ‹¬ s = tx0›; omega))) ?_
          refine RL.callP rfl hH10 (c_name_goes _  _) (run_call1 Tryd.call74 rfl) ?_
          intro w13 hH14
          refine RL.val rfl (run_not rfl) ?_
          refine RL.nil ?_
          refine CW.cond rfl (fun h17 => ?_) (fun h17 => ?_)
          · refine CW.seq ?_
            refine CW.region ?_
            refine RL.val rfl (run_assign (v := B false) rfl) ?_
            refine RL.nil ?_
            refine CW.ret ?_
            refine outP1 Tryd.results51 (congrArg B ?_) hH14.below
            first | exact (nameR_no1 (by first | omega | (have := htx.1 ‹s = tx0›; omega))).symm | exact (nameR_no2 (nt ‹_›)).symm | exact (nameR_no3 h0 ‹_› (nt ‹_›)).symm | exact (nameR_yes hsz (nf ‹_›) ‹_› hf).symm
          · refine CW.skip ?_
            refine CW.region ?_
            refine RL.val rfl (run_add e19_10 rfl (by omega)) ?_
            refine RL.val rfl (run_move (v := I _) rfl) ?_
            refine RL.nil ?_
            refine ⟨k + 1, ?_, (((((((((fr10.u rfl).u rfl).u rfl).u rfl).u rfl).u rfl).u rfl).u rfl).u rfl).u rfl, hH14, (congrArg I (by first | rfl | omega)), ?_, ?_, ?_⟩
            · ((try dsimp only); omega)
            · omega
            · omega
            · exact fun j a b => if e : j = k then e ▸ nf ‹_› else hf j a (by omega)
        · refine CW.exit (id := 0) rfl ?_
          refine CW.seq ?_
          refine CW.region ?_
          refine RL.val rfl (run_assign (v := B true) rfl) ?_
          refine RL.nil ?_
          refine CW.ret ?_
          refine outP1 Tryd.results51 (congrArg B ?_) hH10.below
          first | exact (nameR_no1 (by first | omega | (have := htx.1 ‹s = tx0›; omega))).symm | exact (nameR_no2 (nt ‹_›)).symm | exact (nameR_no3 h0 ‹_› (nt ‹_›)).symm | exact (nameR_yes hsz (nf ‹_›) ‹_› hf).symm

theorem c_name_place (n : Int) (f : FuncId) (cs : List Value) (P : Int → Bool) (hn : 0 ≤ n ∧ n ≤ 9223372036854775807) (w : World) (hf : ∀ args w, (callFunc f args).run Tryd.prog w = .ok (.enter f args) w) (go : ∀ i w', Below w.heap.size w w' → 0 ≤ i → i < n → Calls Tryd.prog f (I i :: cs).toArray w' (Pure (B (P i)) w')) : Calls Tryd.prog 70 #[I 0, I n, .func (.func f) #[] cs.toArray] w (Pure (I (findV P n)) w) := by
  refine enter Tryd.func70 rfl Tryd.ntmps70 rfl ?_
  have hH := Hp.start w
  refine CW.seq ?_
  refine CW.region ?_
  refine RL.val rfl (run_assign (v := I 0) rfl) ?_
  refine RL.nil ?_
  refine CW.seq ?_
  refine CW.seq ?_
  refine CW.region ?_
  refine RL.val rfl (run_move (v := I _) rfl) ?_
  refine RL.val rfl (run_assign (v := I _) rfl) ?_
  refine RL.nil ?_
  refine CW.block ?_
  refine CW.loop (G := (Int)) (fun (k : Int) s' w' => (Fr [6, 7, 9, 10, 11, 12, 13, 14, 15, 16, 17] _ s') ∧ (Hp w w' _) ∧ (s' 7 = I k) ∧ (0 ≤ k) ∧ (k ≤ n) ∧ (∀ j : Int, 0 ≤ j → j < k → P j = false)) (fun (k : Int) => (n - k).toNat) (0) ⟨Fr.refl _ _, hH, rfl, (by omega), (by omega), fun j a b => absurd b (by omega)⟩ ?_
  rintro k sg1 w1 ⟨fr1, hH1, e7_1, h0, hk, hg⟩
  have e1_1 : sg1 1 = I _ := (fr1 1 rfl).trans rfl
  have e2_1 : sg1 2 = .func _ _ _ := (fr1 2 rfl).trans rfl
  refine CW.seq ?_
  refine CW.seq ?_
  refine CW.region ?_
  refine RL.val rfl (run_move e7_1) ?_
  refine RL.val rfl (run_move e1_1) ?_
  refine RL.val rfl (run_lss rfl rfl) ?_
  refine RL.nil ?_
  refine CW.condP rfl (fun h3 => ?_) (fun h3 => ?_)
  · refine CW.skip ?_
    refine CW.seq ?_
    refine CW.block ?_
    refine CW.seq ?_
    refine CW.region ?_
    refine RL.val rfl (run_move e2_1) ?_
    refine RL.val rfl (run_move e7_1) ?_
    refine RL.callP rfl hH1 (go _ _ hH1.below (by omega) (by omega)) (run_callC1 hf (cs := cs) rfl rfl) ?_
    intro w4 hH5
    refine RL.nil ?_
    refine CW.cond rfl (fun h7 => ?_) (fun h7 => ?_)
    · refine CW.seq ?_
      refine CW.region ?_
      refine RL.val rfl (run_move e7_1) ?_
      refine RL.val rfl (run_assign (v := I _) rfl) ?_
      refine RL.nil ?_
      refine CW.ret ?_
      refine outP1 Tryd.results70 (congrArg I ?_) hH5.below
      first | exact (find_yes h0 ‹_› ‹_› hg).symm | exact (find_no fun j a b => hg j a (by omega)).symm
    · refine CW.skip ?_
      refine CW.region ?_
      refine RL.val rfl (run_move e7_1) ?_
      refine RL.val rfl (run_add rfl rfl (by omega)) ?_
      refine RL.val rfl (run_assign (v := I _) rfl) ?_
      refine RL.nil ?_
      refine ⟨k + 1, ?_, ((((((((fr1.u rfl).u rfl).u rfl).u rfl).u rfl).u rfl).u rfl).u rfl).u rfl, hH5, (congrArg I (by first | rfl | omega)), ?_, ?_, ?_⟩
      · ((try dsimp only); omega)
      · omega
      · omega
      · exact fun j a b => if e : j = k then e ▸ ‹P k = false› else hg j a (by omega)
  · refine CW.exit (id := 0) rfl ?_
    refine CW.seq ?_
    refine CW.region ?_
    refine RL.val rfl (run_assign (v := I (-1)) rfl) ?_
    refine RL.nil ?_
    refine CW.ret ?_
    refine outP1 Tryd.results70 (congrArg I ?_) hH1.below
    first | exact (find_yes h0 ‹_› ‹_› hg).symm | exact (find_no fun j a b => hg j a (by omega)).symm

theorem c_name_Find_1 (b c : Nat) (v : Value) (l : List Tx) (s : Tx) (i : Int) (hi : 0 ≤ i ∧ i < l.length) (w : World) (hs : Sl w v 1 l.length (txL l)) (hb : w.heap[b]? = some (.cells #[v] 30 (0, 0))) (hc : w.heap[c]? = some (.cells #[S s] 9 (0, 0))) : Calls Tryd.prog 89 #[I i, .pointer (some ⟨b, 0, none⟩), .pointer (some ⟨c, 0, none⟩)] w (Pure (B (decide (l.getD i.toNat tx0 = s))) w) := by
  have hm := hs.small
  unfold maxLen at hm
  refine enter Tryd.func89 rfl Tryd.ntmps89 rfl ?_
  have hH := Hp.start w
  refine CW.seq ?_
  refine CW.region ?_
  refine RL.val rfl (run_assign (v := B false) rfl) ?_
  refine RL.nil ?_
  refine CW.seq ?_
  refine CW.regionD (by kernel_rfl) hH ?_
  intro w1 hH2
  refine AN.take 0 rfl rfl (by kernel_rfl) (by kernel_rfl) (by kernel_rfl) (hH2.sub (List.Sublist.refl _)) (fun w hS => run_ld Tryd.underlying30 rfl rfl (hS.extCell hb rfl)) ?_
  refine AN.take 1 rfl rfl (by kernel_rfl) (by kernel_rfl) (by kernel_rfl) (hH2.sub (List.Sublist.refl _)) (fun w hS => run_move (v := I _) rfl) ?_
  refine AN.take 2 rfl rfl (by kernel_rfl) (by kernel_rfl) (by kernel_rfl) (hH2.sub (List.Sublist.refl _)) (fun w hS => run_indexAddrS (hs.hp hS) Tryd.underlying30 Tryd.sizeOf9 rfl rfl (by omega)) ?_
  refine AN.take 3 rfl rfl (by kernel_rfl) (by kernel_rfl) (by kernel_rfl) (hH2.sub (List.Sublist.refl _)) (fun w hS => run_ld Tryd.underlying9 rfl rfl ((hs.hp hS).cell _ _ (txL_at (by omega)))) ?_
  refine AN.take 4 rfl rfl (by kernel_rfl) (by kernel_rfl) (by kernel_rfl) (hH2.sub (List.Sublist.refl _)) (fun w hS => run_ld Tryd.underlying9 rfl rfl (hS.extCell hc (v := .string _) rfl)) ?_
  refine AN.take 5 rfl rfl (by kernel_rfl) (by kernel_rfl) (by kernel_rfl) (hH2.sub (List.Sublist.refl _)) (fun w hS => run_eqlS rfl rfl) ?_
  refine AN.take 6 rfl rfl (by kernel_rfl) (by kernel_rfl) (by kernel_rfl) (hH2.sub (List.Sublist.refl _)) (fun w hS => run_assign (v := B _) rfl) ?_
  refine AN.done (by kernel_rfl) ?_
  refine CW.ret ?_
  refine outP1 Tryd.results89 (congrArg B ?_) hH2.below
  rfl

theorem c_name_Find (v : Value) (l : List Tx) (s : Tx) (w : World) (hs : Sl w v 1 l.length (txL l)) : Calls Tryd.prog 72 #[v, S s] w (Pure (I (nfind l s)) w) := by
  have hm := hs.small
  unfold maxLen at hm
  refine enter Tryd.func72 rfl Tryd.ntmps72 rfl ?_
  have hH := Hp.start w
  refine CW.seq ?_
  refine CW.region ?_
  refine RL.new rfl hH (f := fun b => (.pointer (some ⟨b, 0, none⟩))) (run_box (by conv => lhs; whnf)) ?_
  intro b3 w1 hH2
  rw [(one_sl hs).2] at hH2
  refine RL.new rfl hH2 (f := fun b => (.pointer (some ⟨b, 0, none⟩))) (run_box (v := .string _) rfl) ?_
  intro b6 w4 hH5
  refine RL.val rfl (run_assign (v := I 0) rfl) ?_
  refine RL.nil ?_
  refine CW.seq ?_
  refine CW.region ?_
  refine RL.val rfl (run_ld Tryd.underlying30 rfl rfl (hH5.cell (i := 1) rfl rfl)) ?_
  refine RL.val rfl (run_lenSl (hs.hp hH5) rfl Tryd.underlying30 rfl) ?_
  refine RL.val rfl (run_mkF2 (by conv => lhs; whnf) (by conv => lhs; whnf)) ?_
  refine RL.callP rfl hH5 (c_name_place _ 89 [.pointer (some ⟨b3, 0, none⟩), .pointer (some ⟨b6, 0, none⟩)] (fun i => decide (l.getD i.toNat tx0 = s)) (by omega) _ Tryd.call89 (fun i w h h0 h1 => c_name_Find_1 b3 b6 v l s i ⟨h0, h1⟩ w ((hs.hp hH5).below h) (keep h (hH5.blk (i := 1) rfl)) (keep h (hH5.blk (i := 0) rfl)))) (run_call3 Tryd.call70 (show _ = I 0 from rfl) rfl rfl) ?_
  intro w7 hH8
  refine RL.val rfl (run_assign (v := I _) rfl) ?_
  refine RL.nil ?_
  refine CW.ret ?_
  refine outP1 Tryd.results72 (congrArg I ?_) hH8.below
  rfl

theorem c_name_Twice_1 (b : Nat) (v : Value) (l : List Tx) (i : Int) (hi : 0 ≤ i ∧ i < l.length) (w : World) (hs : Sl w v 1 l.length (txL l)) (hb : w.heap[b]? = some (.cells #[v] 30 (0, 0))) : Calls Tryd.prog 71 #[I i, .pointer (some ⟨b, 0, none⟩)] w (Pure (B (decide (nfind l (l.getD i.toNat tx0) < i))) w) := by
  have hm := hs.small
  unfold maxLen at hm
  refine enter Tryd.func71 rfl Tryd.ntmps71 rfl ?_
  have hH := Hp.start w
  refine CW.seq ?_
  refine CW.region ?_
  refine RL.val rfl (run_assign (v := B false) rfl) ?_
  refine RL.nil ?_
  refine CW.seq ?_
  refine CW.regionD (by kernel_rfl) hH ?_
  intro w1 hH2
  refine AN.take 0 rfl rfl (by kernel_rfl) (by kernel_rfl) (by kernel_rfl) (hH2.sub (List.Sublist.refl _)) (fun w hS => run_ld Tryd.underlying30 rfl rfl (hS.extCell hb rfl)) ?_
  refine AN.take 1 rfl rfl (by kernel_rfl) (by kernel_rfl) (by kernel_rfl) (hH2.sub (List.Sublist.refl _)) (fun w hS => run_move (v := I _) rfl) ?_
  refine AN.take 3 rfl rfl (by kernel_rfl) (by kernel_rfl) (by kernel_rfl) (hH2.sub (List.Sublist.refl _)) (fun w hS => run_ld Tryd.underlying30 rfl rfl (hS.extCell hb rfl)) ?_
  refine AN.take 4 rfl rfl (by kernel_rfl) (by kernel_rfl) (by kernel_rfl) (hH2.sub (List.Sublist.refl _)) (fun w hS => run_move (v := I _) rfl) ?_
  refine AN.take 5 rfl rfl (by kernel_rfl) (by kernel_rfl) (by kernel_rfl) (hH2.sub (List.Sublist.refl _)) (fun w hS => run_indexAddrS (hs.hp hS) Tryd.underlying30 Tryd.sizeOf9 rfl rfl (by omega)) ?_
  refine AN.take 6 rfl rfl (by kernel_rfl) (by kernel_rfl) (by kernel_rfl) (hH2.sub (List.Sublist.refl _)) (fun w hS => run_ld Tryd.underlying9 rfl rfl ((hs.hp hS).cell _ _ (txL_at (by omega)))) ?_
  refine AN.one 2 (by kernel_rfl) ?_
  refine AO.read rfl gnone rfl hH2 (List.Sublist.refl _) (run_cut (hs.hp hH2) Tryd.underlying30 Tryd.sizeOf9 rfl rfl (by omega)) ?_
  refine AN.one 7 (by kernel_rfl) ?_
  refine AO.callP rfl gnone rfl hH2 (List.Sublist.refl _) (c_name_Find _ _ _  _ ((hs.hp hH2).cutT (by omega))) (run_call2 Tryd.call72 rfl rfl) ?_
  intro w5 hH6
  refine AN.take 8 rfl rfl (by kernel_rfl) (by kernel_rfl) (by kernel_rfl) (hH6.sub (List.Sublist.refl _)) (fun w hS => run_geq rfl rfl) ?_
  refine AN.take 9 rfl rfl (by kernel_rfl) (by kernel_rfl) (by kernel_rfl) (hH6.sub (List.Sublist.refl _)) (fun w hS => run_assign (v := B _) rfl) ?_
  refine AN.done (by kernel_rfl) ?_
  refine CW.ret ?_
  refine outP1 Tryd.results71 (congrArg B ?_) hH6.below
  exact tx_ahead hi.1 hi.2

theorem c_name_Twice (v : Value) (l : List Tx) (w : World) (hs : Sl w v 1 l.length (txL l)) : Calls Tryd.prog 50 #[v] w (Pure (I (twice l)) w) := by
  have hm := hs.small
  unfold maxLen at hm
  refine enter Tryd.func50 rfl Tryd.ntmps50 rfl ?_
  have hH := Hp.start w
  refine CW.seq ?_
  refine CW.region ?_
  refine RL.new rfl hH (f := fun b => (.pointer (some ⟨b, 0, none⟩))) (run_box (by conv => lhs; whnf)) ?_
  intro b3 w1 hH2
  rw [(one_sl hs).2] at hH2
  refine RL.val rfl (run_assign (v := I 0) rfl) ?_
  refine RL.nil ?_
  refine CW.seq ?_
  refine CW.region ?_
  refine RL.val rfl (run_ld Tryd.underlying30 rfl rfl (hH2.cell (i := 0) rfl rfl)) ?_
  refine RL.val rfl (run_lenSl (hs.hp hH2) rfl Tryd.underlying30 rfl) ?_
  refine RL.val rfl (run_mkF1 (by conv => lhs; whnf)) ?_
  refine RL.callP rfl hH2 (c_name_place _ 71 [.pointer (some ⟨b3, 0, none⟩)] (fun i => decide (nfind l (l.getD i.toNat tx0) < i)) (by omega) _ Tryd.call71 (fun i w h h0 h1 => c_name_Twice_1 b3 v l i ⟨h0, h1⟩ w ((hs.hp hH2).below h) (keep h (hH2.blk (i := 0) rfl)))) (run_call3 Tryd.call70 (show _ = I 0 from rfl) rfl rfl) ?_
  intro w4 hH5
  refine RL.val rfl (run_assign (v := I _) rfl) ?_
  refine RL.nil ?_
  refine CW.ret ?_
  refine outP1 Tryd.results50 (congrArg I ?_) hH5.below
  rfl

theorem c_clearanceref02_Same (v u : Value) (l m : List Tx) (w : World) (hs : Sl w v 1 l.length (txL l)) (ht : Sl w u 1 m.length (txL m)) : Calls Tryd.prog 19 #[v, u] w (Pure (B (decide (l = m))) w) := by
  have hm := hs.small
  unfold maxLen at hm
  refine enter Tryd.func19 rfl Tryd.ntmps19 rfl ?_
  have hH := Hp.start w
  refine CW.seq ?_
  refine CW.region ?_
  refine RL.val rfl (run_assign (v := B false) rfl) ?_
  refine RL.nil ?_
  refine CW.seq ?_
  refine CW.seq ?_
  refine CW.region ?_
  refine RL.val rfl (run_move (by conv => lhs; whnf)) ?_
  refine RL.val rfl (run_lenSl (hs.hp hH) rfl Tryd.underlying30 rfl) ?_
  refine RL.val rfl (run_move (by conv => lhs; whnf)) ?_
  refine RL.val rfl (run_lenSl (ht.hp hH) rfl Tryd.underlying30 rfl) ?_
  refine RL.val rfl (run_neq rfl rfl) ?_
  refine RL.nil ?_
  refine CW.condP rfl (fun h2 => ?_) (fun h2 => ?_)
  · refine CW.seq ?_
    refine CW.region ?_
    refine RL.val rfl (run_assign (v := B false) rfl) ?_
    refine RL.nil ?_
    refine CW.ret ?_
    refine outP1 Tryd.results19 (congrArg B ?_) hH.below
    first | exact (same_no hlm h0 ‹_› ‹_›).symm | exact (same_yes hlm fun j a b => hg j a (by omega)).symm | exact (decide_eq_false fun e => (show ¬ l.length = m.length by omega) (by rw [e])).symm
  · refine CW.skip ?_
    refine CW.seq ?_
    refine CW.seq ?_
    refine CW.region ?_
    refine RL.val rfl (run_assign (v := I 0) rfl) ?_
    refine RL.nil ?_
    refine CW.block ?_
    have hlm : l.length = m.length := by omega
    refine CW.loop (G := (Int)) (fun (k : Int) s' w' => (Fr [4, 5, 11, 12, 13, 14, 15, 16, 17, 18, 19, 20, 21, 22, 23, 24, 25] _ s') ∧ (Hp w w' _) ∧ (s' 5 = I k) ∧ (0 ≤ k) ∧ (k ≤ l.length) ∧ (∀ j : Int, 0 ≤ j → j < k → l.getD j.toNat tx0 = m.getD j.toNat tx0)) (fun (k : Int) => (l.length - k).toNat) (0) ⟨Fr.refl _ _, hH, rfl, (by omega), (by omega), fun j a b => absurd b (by omega)⟩ ?_
    rintro k sg3 w3 ⟨fr3, hH3, e5_3, h0, hk, hg⟩
    have e0_3 := (fr3 0 rfl).trans (by conv => lhs; whnf)
    have e1_3 := (fr3 1 rfl).trans (by conv => lhs; whnf)
    refine CW.seq ?_
    refine CW.seq ?_
    refine CW.region ?_
    refine RL.val rfl (run_move e5_3) ?_
    refine RL.val rfl (run_move e0_3) ?_
    refine RL.val rfl (run_lenSl (hs.hp hH3) rfl Tryd.underlying30 rfl) ?_
    refine RL.val rfl (run_lss rfl rfl) ?_
    refine RL.nil ?_
    refine CW.condP rfl (fun h5 => ?_) (fun h5 => ?_)
    · refine CW.skip ?_
      refine CW.seq ?_
      refine CW.block ?_
      refine CW.seq ?_
      refine CW.regionD (by kernel_rfl) hH3 ?_
      intro w6 hH7
      refine AN.take 0 rfl rfl (by kernel_rfl) (by kernel_rfl) (by kernel_rfl) (hH7.sub (List.Sublist.refl _)) (fun w hS => run_move e0_3) ?_
      refine AN.take 1 rfl rfl (by kernel_rfl) (by kernel_rfl) (by kernel_rfl) (hH7.sub (List.Sublist.refl _)) (fun w hS => run_move e5_3) ?_
      refine AN.take 2 rfl rfl (by kernel_rfl) (by kernel_rfl) (by kernel_rfl) (hH7.sub (List.Sublist.refl _)) (fun w hS => run_indexAddrS (hs.hp hS) Tryd.underlying30 Tryd.sizeOf9 rfl rfl (by omega)) ?_
      refine AN.take 3 rfl rfl (by kernel_rfl) (by kernel_rfl) (by kernel_rfl) (hH7.sub (List.Sublist.refl _)) (fun w hS => run_ld Tryd.underlying9 rfl rfl ((hs.hp hS).cell _ _ (txL_at (by omega)))) ?_
      refine AN.take 4 rfl rfl (by kernel_rfl) (by kernel_rfl) (by kernel_rfl) (hH7.sub (List.Sublist.refl _)) (fun w hS => run_move e1_3) ?_
      refine AN.take 5 rfl rfl (by kernel_rfl) (by kernel_rfl) (by kernel_rfl) (hH7.sub (List.Sublist.refl _)) (fun w hS => run_move e5_3) ?_
      refine AN.take 6 rfl rfl (by kernel_rfl) (by kernel_rfl) (by kernel_rfl) (hH7.sub (List.Sublist.refl _)) (fun w hS => run_indexAddrS (ht.hp hS) Tryd.underlying30 Tryd.sizeOf9 rfl rfl (by omega)) ?_
      refine AN.take 7 rfl rfl (by kernel_rfl) (by kernel_rfl) (by kernel_rfl) (hH7.sub (List.Sublist.refl _)) (fun w hS => run_ld Tryd.underlying9 rfl rfl ((ht.hp hS).cell _ _ (txL_at (by omega)))) ?_
      refine AN.take 8 rfl rfl (by kernel_rfl) (by kernel_rfl) (by kernel_rfl) (hH7.sub (List.Sublist.refl _)) (fun w hS => run_neqS rfl rfl) ?_
      refine AN.done (by kernel_rfl) ?_
      refine CW.condP rfl (fun h9 => ?_) (fun h9 => ?_)
      · refine CW.seq ?_
        refine CW.region ?_
        refine RL.val rfl (run_assign (v := B false) rfl) ?_
        refine RL.nil ?_
        refine CW.ret ?_
        refine outP1 Tryd.results19 (congrArg B ?_) hH7.below
        first | exact (same_no hlm h0 ‹_› ‹_›).symm | exact (same_yes hlm fun j a b => hg j a (by omega)).symm | exact (decide_eq_false fun e => (show ¬ l.length = m.length by omega) (by rw [e])).symm
      · refine CW.skip ?_
        refine CW.region ?_
        refine RL.val rfl (run_move e5_3) ?_
        refine RL.val rfl (run_add rfl rfl (by omega)) ?_
        refine RL.val rfl (run_assign (v := I _) rfl) ?_
        refine RL.nil ?_
        refine ⟨k + 1, ?_, (((((((((((((((fr3.u rfl).u rfl).u rfl).u rfl).u rfl).u rfl).u rfl).u rfl).u rfl).u rfl).u rfl).u rfl).u rfl).u rfl).u rfl).u rfl, hH7, (congrArg I (by first | rfl | omega)), ?_, ?_, ?_⟩
        · ((try dsimp only); omega)
        · omega
        · omega
        · exact fun j a b => if e : j = k then e ▸ Decidable.of_not_not ‹_› else hg j a (by omega)
    · refine CW.exit (id := 0) rfl ?_
      refine CW.seq ?_
      refine CW.region ?_
      refine RL.val rfl (run_assign (v := B true) rfl) ?_
      refine RL.nil ?_
      refine CW.ret ?_
      refine outP1 Tryd.results19 (congrArg B ?_) hH3.below
      first | exact (same_no hlm h0 ‹_› ‹_›).symm | exact (same_yes hlm fun j a b => hg j a (by omega)).symm | exact (decide_eq_false fun e => (show ¬ l.length = m.length by omega) (by rw [e])).symm

theorem c_shape_named (v : Value) (l : List Tx) (w : World) (hs : Sl w v 1 l.length (txL l)) : Calls Tryd.prog 31 #[v] w (Pure (B (namedF l)) w) := by
  have hm := hs.small
  unfold maxLen at hm
  refine enter Tryd.func31 rfl Tryd.ntmps31 rfl ?_
  have hH := Hp.start w
  refine CW.seq ?_
  refine CW.region ?_
  refine RL.val rfl (run_assign (v := B false) rfl) ?_
  refine RL.nil ?_
  refine CW.seq ?_
  refine CW.seq ?_
  refine CW.region ?_
  refine RL.val rfl (run_move (by conv => lhs; whnf)) ?_
  refine RL.val rfl (run_lenSl (hs.hp hH) rfl Tryd.underlying30 rfl) ?_
  refine RL.val rfl (run_lss rfl rfl) ?_
  refine RL.val rfl (run_move (v := B _) rfl) ?_
  refine RL.splitP (dj := 8) rfl (fun h2 => ?_) (fun h2 => ?_)
  · refine RL.gF rfl rfl (bT h2) rfl ?_
    refine RL.gF rfl rfl (bT h2) rfl ?_
    refine RL.gF rfl rfl (bT h2) rfl ?_
    refine RL.val rfl (run_pickT (bT h2) (v := B true) rfl) ?_
    refine RL.val rfl (run_move (v := B _) rfl) ?_
    refine RL.gF rfl rfl rfl rfl ?_
    refine RL.gF rfl rfl rfl rfl ?_
    refine RL.gF rfl rfl rfl rfl ?_
    refine RL.val rfl (run_pickT rfl (v := B true) rfl) ?_
    refine RL.nil ?_
    refine CW.condT rfl ?_
    refine CW.seq ?_
    refine CW.region ?_
    refine RL.val rfl (run_assign (v := B false) rfl) ?_
    refine RL.nil ?_
    refine CW.ret ?_
    refine outP1 Tryd.results31 (congrArg B ?_) hH.below
    first | exact (named_no3 h0 ‹_› (nt ‹_›)).symm | exact (named_yes hn1 hn2 ‹_› hg).symm | exact (named_no1 (by omega)).symm | exact (named_no2 (by omega)).symm
  · refine RL.gT rfl (bF h2) ?_
    refine RL.val rfl (run_move (by conv => lhs; whnf)) ?_
    refine RL.gT rfl (bF h2) ?_
    refine RL.val rfl (run_lenSl (hs.hp hH) rfl Tryd.underlying30 rfl) ?_
    refine RL.gT rfl (bF h2) ?_
    refine RL.val rfl (run_gtr rfl rfl) ?_
    refine RL.val rfl (run_pickF (bF h2) (v := B _) rfl) ?_
    refine RL.val rfl (run_move (v := B _) rfl) ?_
    refine RL.splitP (dj := 13) rfl (fun h4 => ?_) (fun h4 => ?_)
    · refine RL.gF rfl rfl (bT h4) rfl ?_
      refine RL.gF rfl rfl (bT h4) rfl ?_
      refine RL.gF rfl rfl (bT h4) rfl ?_
      refine RL.val rfl (run_pickT (bT h4) (v := B true) rfl) ?_
      refine RL.nil ?_
      refine CW.condT rfl ?_
      refine CW.seq ?_
      refine CW.region ?_
      refine RL.val rfl (run_assign (v := B false) rfl) ?_
      refine RL.nil ?_
      refine CW.ret ?_
      refine outP1 Tryd.results31 (congrArg B ?_) hH.below
      first | exact (named_no3 h0 ‹_› (nt ‹_›)).symm | exact (named_yes hn1 hn2 ‹_› hg).symm | exact (named_no1 (by omega)).symm | exact (named_no2 (by omega)).symm
    · refine RL.gT rfl (bF h4) ?_
      refine RL.val rfl (run_move (by conv => lhs; whnf)) ?_
      refine RL.gT rfl (bF h4) ?_
      refine RL.callP rfl hH (c_name_Twice _ _  _ (hs.hp hH)) (run_call1 Tryd.call50 rfl) ?_
      intro w5 hH6
      refine RL.gT rfl (bF h4) ?_
      refine RL.val rfl (run_geq rfl rfl) ?_
      refine RL.val rfl (run_pickF (bF h4) (v := B _) rfl) ?_
      refine RL.nil ?_
      refine CW.condP rfl (fun h8 => ?_) (fun h8 => ?_)
      · refine CW.seq ?_
        refine CW.region ?_
        refine RL.val rfl (run_assign (v := B false) rfl) ?_
        refine RL.nil ?_
        refine CW.ret ?_
        refine outP1 Tryd.results31 (congrArg B ?_) hH6.below
        first | exact (named_no3 h0 ‹_› (nt ‹_›)).symm | exact (named_yes hn1 hn2 ‹_› hg).symm | exact (named_no1 (by omega)).symm | exact (named_no2 (by omega)).symm
      · refine CW.skip ?_
        refine CW.seq ?_
        refine CW.seq ?_
        refine CW.region ?_
        refine RL.val rfl (run_move (by conv => lhs; whnf)) ?_
        refine RL.val rfl (run_lenSl (hs.hp hH6) rfl Tryd.underlying30 rfl) ?_
        refine RL.val rfl (run_move (v := I 0) rfl) ?_
        refine RL.nil ?_
        refine CW.block ?_
        have hn1 : 1 ≤ l.length ∧ l.length ≤ 64 := by omega
        have hn2 : twice l < 0 := by omega
        refine CW.loop (G := (Int)) (fun (k : Int) s' w' => (Fr [2, 4, 20, 21, 22, 23, 24, 25, 26, 27] _ s') ∧ (Hp w w' _) ∧ (s' 20 = I k) ∧ (0 ≤ k) ∧ (k ≤ l.length) ∧ (∀ j : Int, 0 ≤ j → j < k → nameR (l.getD j.toNat tx0) = true)) (fun (k : Int) => (l.length - k).toNat) (0) ⟨Fr.refl _ _, hH6, rfl, (by omega), (by omega), fun j a b => absurd b (by omega)⟩ ?_
        rintro k sg9 w9 ⟨fr9, hH9, e20_9, h0, hk, hg⟩
        have e18_9 := (fr9 18 rfl).trans (by conv => lhs; whnf)
        have e19_9 : sg9 19 = I _ := (fr9 19 rfl).trans rfl
        refine CW.seq ?_
        refine CW.region ?_
        refine RL.val rfl (run_lss e20_9 e19_9) ?_
        refine RL.nil ?_
        refine CW.seq ?_
        refine CW.condP rfl (fun h11 => ?_) (fun h11 => ?_)
        · refine CW.skip ?_
          refine CW.seq ?_
          refine CW.block ?_
          refine CW.seq ?_
          refine CW.region ?_
          refine RL.val rfl (run_indexAddrS (hs.hp hH9) Tryd.underlying30 Tryd.sizeOf9 e18_9 e20_9 (by omega)) ?_
          refine RL.val rfl (run_ld Tryd.underlying9 rfl rfl ((hs.hp hH9).cell _ _ (txL_at (by omega)))) ?_
          refine RL.val rfl (run_assign (v := .string _) rfl) ?_
          refine RL.nil ?_
          refine CW.seq ?_
          refine CW.region ?_
          refine RL.val rfl (run_move (v := .string _) rfl) ?_
          refine RL.callP rfl hH9 (c_name_Right _  _) (run_call1 Tryd.call51 rfl) ?_
          intro w12 hH13
          refine RL.val rfl (run_not rfl) ?_
          refine RL.nil ?_
          refine CW.cond rfl (fun h16 => ?_) (fun h16 => ?_)
          · refine CW.seq ?_
            refine CW.region ?_
            refine RL.val rfl (run_assign (v := B false) rfl) ?_
            refine RL.nil ?_
            refine CW.ret ?_
            refine outP1 Tryd.results31 (congrArg B ?_) hH13.below
            first | exact (named_no3 h0 ‹_› (nt ‹_›)).symm | exact (named_yes hn1 hn2 ‹_› hg).symm | exact (named_no1 (by omega)).symm | exact (named_no2 (by omega)).symm
          · refine CW.skip ?_
            refine CW.region ?_
            refine RL.val rfl (run_add e20_9 rfl (by omega)) ?_
            refine RL.val rfl (run_move (v := I _) rfl) ?_
            refine RL.nil ?_
            refine ⟨k + 1, ?_, ((((((((fr9.u rfl).u rfl).u rfl).u rfl).u rfl).u rfl).u rfl).u rfl).u rfl, hH13, (congrArg I (by first | rfl | omega)), ?_, ?_, ?_⟩
            · ((try dsimp only); omega)
            · omega
            · omega
            · exact fun j a b => if e : j = k then e ▸ nf ‹_› else hg j a (by omega)
        · refine CW.exit (id := 0) rfl ?_
          refine CW.seq ?_
          refine CW.region ?_
          refine RL.val rfl (run_assign (v := B true) rfl) ?_
          refine RL.nil ?_
          refine CW.ret ?_
          refine outP1 Tryd.results31 (congrArg B ?_) hH9.below
          first | exact (named_no3 h0 ‹_› (nt ‹_›)).symm | exact (named_yes hn1 hn2 ‹_› hg).symm | exact (named_no1 (by omega)).symm | exact (named_no2 (by omega)).symm

theorem c_shape_factor (f : Fac) (w : World) (hf : FacV (Kw w) f) (hT : Tab w) : Calls Tryd.prog 22 #[.agg (facC f)] w (Pure (B (factorR f.fc)) w) := by
  have hm := hf.names.sl.small
  unfold maxLen at hm
  refine enter Tryd.func22 rfl Tryd.ntmps22 rfl ?_
  have hH := Hp.start w
  refine CW.seq ?_
  refine CW.region ?_
  refine RL.new rfl hH (f := fun b => (.pointer (some ⟨b, 0, none⟩))) (run_box (v := .agg _) rfl) ?_
  intro b3 w1 hH2
  refine RL.val rfl (run_assign (v := B false) rfl) ?_
  refine RL.nil ?_
  refine CW.seq ?_
  refine CW.seq ?_
  refine CW.region ?_
  refine RL.val rfl (run_fieldAddr Tryd.underlying36 rfl (off := 1) rfl Tryd.sizeOf30 (by decide) rfl) ?_
  refine RL.val rfl (run_ld Tryd.underlying30 rfl rfl (hH2.cell (i := 0) rfl rfl)) ?_
  refine RL.callP rfl hH2 (c_shape_named _ _  _ (hf.names.sl.hp hH2)) (run_call1 Tryd.call31 rfl) ?_
  intro w4 hH5
  refine RL.val rfl (run_not rfl) ?_
  refine RL.nil ?_
  refine CW.cond rfl (fun h8 => ?_) (fun h8 => ?_)
  · refine CW.seq ?_
    refine CW.region ?_
    refine RL.val rfl (run_assign (v := B false) rfl) ?_
    refine RL.nil ?_
    refine CW.ret ?_
    refine outP1 Tryd.results22 (congrArg B ?_) hH5.below
    first | exact (fac_no (f := f.fc) (nt ‹_›)).symm | exact (fac_12s (f := f.fc) (nf ‹(!namedF f.names) = false›) (.inl ‹_›)).symm | exact (fac_12s (f := f.fc) (nf ‹(!namedF f.names) = false›) (.inr ‹_›)).symm | exact (fac_3y (f := f.fc) (nf ‹(!namedF f.names) = false›) ‹_› ‹_›).symm | exact (fac_3n (f := f.fc) ‹_› ‹_›).symm | exact (fac_4y (f := f.fc) (nf ‹(!namedF f.names) = false›) ‹_› ‹_›).symm | exact (fac_4n (f := f.fc) ‹_› ‹_›).symm | exact (fac_x (f := f.fc) ‹_› ‹_› ‹_› ‹_›).symm
  · refine CW.skip ?_
    refine CW.seq ?_
    refine CW.seq ?_
    refine CW.region ?_
    refine RL.val rfl (run_fieldAddr Tryd.underlying36 rfl (off := 0) rfl Tryd.sizeOf3 (by decide) rfl) ?_
    refine RL.val rfl (run_ld Tryd.underlying3 rfl rfl (hH5.cell (i := 0) rfl (v := I _) rfl)) ?_
    refine RL.nil ?_
    refine CW.block ?_
    refine CW.seq ?_
    refine CW.seq ?_
    refine CW.region ?_
    refine RL.val rfl (run_eql rfl rfl) ?_
    refine RL.val rfl (run_assign (v := B _) rfl) ?_
    refine RL.nil ?_
    refine CW.condP rfl (fun h10 => ?_) (fun h10 => ?_)
    · refine CW.skip ?_
      refine CW.condT (bT h10) ?_
      refine CW.seq ?_
      refine CW.region ?_
      refine RL.val rfl (run_fieldAddr Tryd.underlying36 rfl (off := 2) rfl Tryd.sizeOf34 (by decide) rfl) ?_
      refine RL.val rfl (run_ldBR Tryd.underlying34 rfl rfl rfl (hH5.blk (i := 0) rfl)) ?_
      refine RL.val rfl (run_bld (vs := []) rfl built_rel0) ?_
      refine RL.callP rfl hH5 (c_relate_Same _ _  _) (run_call2 Tryd.call32 rfl rfl) ?_
      intro w11 hH12
      refine RL.val rfl (run_assign (v := B _) rfl) ?_
      refine RL.nil ?_
      refine CW.ret ?_
      refine outP1 Tryd.results22 (congrArg B ?_) hH12.below
      first | exact (fac_no (f := f.fc) (nt ‹_›)).symm | exact (fac_12s (f := f.fc) (nf ‹(!namedF f.names) = false›) (.inl ‹_›)).symm | exact (fac_12s (f := f.fc) (nf ‹(!namedF f.names) = false›) (.inr ‹_›)).symm | exact (fac_3y (f := f.fc) (nf ‹(!namedF f.names) = false›) ‹_› ‹_›).symm | exact (fac_3n (f := f.fc) ‹_› ‹_›).symm | exact (fac_4y (f := f.fc) (nf ‹(!namedF f.names) = false›) ‹_› ‹_›).symm | exact (fac_4n (f := f.fc) ‹_› ‹_›).symm | exact (fac_x (f := f.fc) ‹_› ‹_› ‹_› ‹_›).symm
    · refine CW.region ?_
      refine RL.val rfl (run_eql rfl rfl) ?_
      refine RL.val rfl (run_assign (v := B _) rfl) ?_
      refine RL.nil ?_
      refine CW.condP rfl (fun h16 => ?_) (fun h16 => ?_)
      · refine CW.seq ?_
        refine CW.region ?_
        refine RL.val rfl (run_fieldAddr Tryd.underlying36 rfl (off := 2) rfl Tryd.sizeOf34 (by decide) rfl) ?_
        refine RL.val rfl (run_ldBR Tryd.underlying34 rfl rfl rfl (hH5.blk (i := 0) rfl)) ?_
        refine RL.val rfl (run_bld (vs := []) rfl built_rel0) ?_
        refine RL.callP rfl hH5 (c_relate_Same _ _  _) (run_call2 Tryd.call32 rfl rfl) ?_
        intro w17 hH18
        refine RL.val rfl (run_assign (v := B _) rfl) ?_
        refine RL.nil ?_
        refine CW.ret ?_
        refine outP1 Tryd.results22 (congrArg B ?_) hH18.below
        first | exact (fac_no (f := f.fc) (nt ‹_›)).symm | exact (fac_12s (f := f.fc) (nf ‹(!namedF f.names) = false›) (.inl ‹_›)).symm | exact (fac_12s (f := f.fc) (nf ‹(!namedF f.names) = false›) (.inr ‹_›)).symm | exact (fac_3y (f := f.fc) (nf ‹(!namedF f.names) = false›) ‹_› ‹_›).symm | exact (fac_3n (f := f.fc) ‹_› ‹_›).symm | exact (fac_4y (f := f.fc) (nf ‹(!namedF f.names) = false›) ‹_› ‹_›).symm | exact (fac_4n (f := f.fc) ‹_› ‹_›).symm | exact (fac_x (f := f.fc) ‹_› ‹_› ‹_› ‹_›).symm
      · refine CW.seq ?_
        refine CW.region ?_
        refine RL.val rfl (run_eql rfl rfl) ?_
        refine RL.val rfl (run_assign (v := B _) rfl) ?_
        refine RL.nil ?_
        refine CW.condP rfl (fun h22 => ?_) (fun h22 => ?_)
        · refine CW.seq ?_
          refine CW.region ?_
          refine RL.val rfl (run_fieldAddr Tryd.underlying36 rfl (off := 2) rfl Tryd.sizeOf34 (by decide) rfl) ?_
          refine RL.val rfl (run_fieldAddr Tryd.underlying34 rfl (off := 0) rfl Tryd.sizeOf3 (by decide) rfl) ?_
          refine RL.val rfl (run_ld Tryd.underlying3 rfl rfl (hH5.cell (i := 0) rfl (v := I _) rfl)) ?_
          refine RL.val rfl (run_fieldAddr Tryd.underlying36 rfl (off := 1) rfl Tryd.sizeOf30 (by decide) rfl) ?_
          refine RL.val rfl (run_ld Tryd.underlying30 rfl rfl (hH5.cell (i := 0) rfl rfl)) ?_
          refine RL.val rfl (run_lenSl (hf.names.sl.hp hH5) rfl Tryd.underlying30 rfl) ?_
          refine RL.val rfl (run_eql rfl rfl) ?_
          refine RL.val rfl (run_move (v := B _) rfl) ?_
          refine RL.splitP (dj := 25) rfl (fun h24 => ?_) (fun h24 => ?_)
          · refine RL.gT rfl (bT h24) ?_
            refine RL.val rfl (run_fieldAddr Tryd.underlying36 rfl (off := 2) rfl Tryd.sizeOf34 (by decide) rfl) ?_
            refine RL.gT rfl (bT h24) ?_
            refine RL.val rfl (run_ldBR Tryd.underlying34 rfl rfl rfl (hH5.blk (i := 0) rfl)) ?_
            refine RL.gT rfl (bT h24) ?_
            refine RL.callP rfl hH5 (c_grid_Right _  _) (run_call1 Tryd.call33 rfl) ?_
            intro w25 hH26
            refine RL.val rfl (run_pickT (bT h24) (v := B _) rfl) ?_
            refine RL.val rfl (run_assign (v := B _) rfl) ?_
            refine RL.nil ?_
            refine CW.ret ?_
            refine outP1 Tryd.results22 (congrArg B ?_) hH26.below
            first | exact (fac_no (f := f.fc) (nt ‹_›)).symm | exact (fac_12s (f := f.fc) (nf ‹(!namedF f.names) = false›) (.inl ‹_›)).symm | exact (fac_12s (f := f.fc) (nf ‹(!namedF f.names) = false›) (.inr ‹_›)).symm | exact (fac_3y (f := f.fc) (nf ‹(!namedF f.names) = false›) ‹_› ‹_›).symm | exact (fac_3n (f := f.fc) ‹_› ‹_›).symm | exact (fac_4y (f := f.fc) (nf ‹(!namedF f.names) = false›) ‹_› ‹_›).symm | exact (fac_4n (f := f.fc) ‹_› ‹_›).symm | exact (fac_x (f := f.fc) ‹_› ‹_› ‹_› ‹_›).symm
          · refine RL.gF rfl rfl (bF h24) rfl ?_
            refine RL.gF rfl rfl (bF h24) rfl ?_
            refine RL.gF rfl rfl (bF h24) rfl ?_
            refine RL.val rfl (run_pickF (bF h24) (v := B false) rfl) ?_
            refine RL.val rfl (run_assign (v := B _) rfl) ?_
            refine RL.nil ?_
            refine CW.ret ?_
            refine outP1 Tryd.results22 (congrArg B ?_) hH5.below
            first | exact (fac_no (f := f.fc) (nt ‹_›)).symm | exact (fac_12s (f := f.fc) (nf ‹(!namedF f.names) = false›) (.inl ‹_›)).symm | exact (fac_12s (f := f.fc) (nf ‹(!namedF f.names) = false›) (.inr ‹_›)).symm | exact (fac_3y (f := f.fc) (nf ‹(!namedF f.names) = false›) ‹_› ‹_›).symm | exact (fac_3n (f := f.fc) ‹_› ‹_›).symm | exact (fac_4y (f := f.fc) (nf ‹(!namedF f.names) = false›) ‹_› ‹_›).symm | exact (fac_4n (f := f.fc) ‹_› ‹_›).symm | exact (fac_x (f := f.fc) ‹_› ‹_› ‹_› ‹_›).symm
        · refine CW.seq ?_
          refine CW.region ?_
          refine RL.val rfl (run_eql rfl rfl) ?_
          refine RL.val rfl (run_assign (v := B _) rfl) ?_
          refine RL.nil ?_
          refine CW.condP rfl (fun h29 => ?_) (fun h29 => ?_)
          · refine CW.seq ?_
            refine CW.region ?_
            refine RL.val rfl (run_fieldAddr Tryd.underlying36 rfl (off := 2) rfl Tryd.sizeOf34 (by decide) rfl) ?_
            refine RL.val rfl (run_fieldAddr Tryd.underlying34 rfl (off := 0) rfl Tryd.sizeOf3 (by decide) rfl) ?_
            refine RL.val rfl (run_ld Tryd.underlying3 rfl rfl (hH5.cell (i := 0) rfl (v := I _) rfl)) ?_
            refine RL.val rfl (run_fieldAddr Tryd.underlying36 rfl (off := 1) rfl Tryd.sizeOf30 (by decide) rfl) ?_
            refine RL.val rfl (run_ld Tryd.underlying30 rfl rfl (hH5.cell (i := 0) rfl rfl)) ?_
            refine RL.val rfl (run_lenSl (hf.names.sl.hp hH5) rfl Tryd.underlying30 rfl) ?_
            refine RL.val rfl (run_eql rfl rfl) ?_
            refine RL.val rfl (run_move (v := B _) rfl) ?_
            refine RL.splitP (dj := 39) rfl (fun h31 => ?_) (fun h31 => ?_)
            · refine RL.gT rfl (bT h31) ?_
              refine RL.val rfl (run_fieldAddr Tryd.underlying36 rfl (off := 2) rfl Tryd.sizeOf34 (by decide) rfl) ?_
              refine RL.gT rfl (bT h31) ?_
              refine RL.val rfl (run_ldBR Tryd.underlying34 rfl rfl rfl (hH5.blk (i := 0) rfl)) ?_
              refine RL.gT rfl (bT h31) ?_
              refine RL.callP rfl hH5 (c_hasse_Lattice _  _ (hT.hp hH5)) (run_call1 Tryd.call34 rfl) ?_
              intro w32 hH33
              refine RL.val rfl (run_pickT (bT h31) (v := B _) rfl) ?_
              refine RL.val rfl (run_assign (v := B _) rfl) ?_
              refine RL.nil ?_
              refine CW.ret ?_
              refine outP1 Tryd.results22 (congrArg B ?_) hH33.below
              first | exact (fac_no (f := f.fc) (nt ‹_›)).symm | exact (fac_12s (f := f.fc) (nf ‹(!namedF f.names) = false›) (.inl ‹_›)).symm | exact (fac_12s (f := f.fc) (nf ‹(!namedF f.names) = false›) (.inr ‹_›)).symm | exact (fac_3y (f := f.fc) (nf ‹(!namedF f.names) = false›) ‹_› ‹_›).symm | exact (fac_3n (f := f.fc) ‹_› ‹_›).symm | exact (fac_4y (f := f.fc) (nf ‹(!namedF f.names) = false›) ‹_› ‹_›).symm | exact (fac_4n (f := f.fc) ‹_› ‹_›).symm | exact (fac_x (f := f.fc) ‹_› ‹_› ‹_› ‹_›).symm
            · refine RL.gF rfl rfl (bF h31) rfl ?_
              refine RL.gF rfl rfl (bF h31) rfl ?_
              refine RL.gF rfl rfl (bF h31) rfl ?_
              refine RL.val rfl (run_pickF (bF h31) (v := B false) rfl) ?_
              refine RL.val rfl (run_assign (v := B _) rfl) ?_
              refine RL.nil ?_
              refine CW.ret ?_
              refine outP1 Tryd.results22 (congrArg B ?_) hH5.below
              first | exact (fac_no (f := f.fc) (nt ‹_›)).symm | exact (fac_12s (f := f.fc) (nf ‹(!namedF f.names) = false›) (.inl ‹_›)).symm | exact (fac_12s (f := f.fc) (nf ‹(!namedF f.names) = false›) (.inr ‹_›)).symm | exact (fac_3y (f := f.fc) (nf ‹(!namedF f.names) = false›) ‹_› ‹_›).symm | exact (fac_3n (f := f.fc) ‹_› ‹_›).symm | exact (fac_4y (f := f.fc) (nf ‹(!namedF f.names) = false›) ‹_› ‹_›).symm | exact (fac_4n (f := f.fc) ‹_› ‹_›).symm | exact (fac_x (f := f.fc) ‹_› ‹_› ‹_› ‹_›).symm
          · refine CW.skip ?_
            refine CW.seq ?_
            refine CW.region ?_
            refine RL.val rfl (run_assign (v := B false) rfl) ?_
            refine RL.nil ?_
            refine CW.ret ?_
            refine outP1 Tryd.results22 (congrArg B ?_) hH5.below
            first | exact (fac_no (f := f.fc) (nt ‹_›)).symm | exact (fac_12s (f := f.fc) (nf ‹(!namedF f.names) = false›) (.inl ‹_›)).symm | exact (fac_12s (f := f.fc) (nf ‹(!namedF f.names) = false›) (.inr ‹_›)).symm | exact (fac_3y (f := f.fc) (nf ‹(!namedF f.names) = false›) ‹_› ‹_›).symm | exact (fac_3n (f := f.fc) ‹_› ‹_›).symm | exact (fac_4y (f := f.fc) (nf ‹(!namedF f.names) = false›) ‹_› ‹_›).symm | exact (fac_4n (f := f.fc) ‹_› ‹_›).symm | exact (fac_x (f := f.fc) ‹_› ‹_› ‹_› ‹_›).symm

end Go.Proofs.YtgmdjomdmfcpnaaDoor.W
