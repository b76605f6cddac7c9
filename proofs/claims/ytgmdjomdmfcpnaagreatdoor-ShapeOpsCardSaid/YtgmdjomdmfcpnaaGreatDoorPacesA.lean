/-
  The walks of the functions that the laws of this seat reach, part 1: each returns what its plain counterpart tells, and turns nothing that was there.
-/
import Derived.Test.YtgmdjomdmfcpnaaGreatDoorProg
import Derived.Test.YtgmdjomdmfcpnaaGreatDoorEnv
import Derived.Test.YtgmdjomdmfcpnaaGreatDoorPlain
import Derived.Test.YtgmdjomdmfcpnaaGreatDoorBase
import Derived.Test.YtgmdjomdmfcpnaaGreatDoorOrd
import Derived.Test.YtgmdjomdmfcpnaaGreatDoorRel
import Derived.Test.YtgmdjomdmfcpnaaGreatDoorClo
import Derived.Test.YtgmdjomdmfcpnaaGreatDoorCov
import Derived.Test.YtgmdjomdmfcpnaaGreatDoorArr
import Derived.Test.YtgmdjomdmfcpnaaGreatDoorHas
import Derived.Test.YtgmdjomdmfcpnaaGreatDoorGrd
import Derived.Test.YtgmdjomdmfcpnaaGreatDoorStr
import Derived.Test.YtgmdjomdmfcpnaaGreatDoorVu
import Derived.Test.YtgmdjomdmfcpnaaGreatDoorShp
import Derived.Test.YtgmdjomdmfcpnaaGreatDoorShl
import Derived.Test.YtgmdjomdmfcpnaaGreatDoorShq
import Derived.Test.YtgmdjomdmfcpnaaGreatDoorShr
namespace Go.Proofs.YtgmdjomdmfcpnaaGreatDoor.W
open Go Go.RowKit Go.Proofs.YtgmdjomdmfcpnaaGreatDoor.E Go.Proofs.YtgmdjomdmfcpnaaGreatDoor.M
set_option linter.unusedVariables false
set_option linter.unusedSimpArgs false
set_option maxRecDepth 100000

theorem zero_rel : ∀ w, (zeroValue 42).run Tryz.prog w = .ok (.agg (relC Rl.none)) w := fun w => by
  rw [relC_def]; exact Tryz.zeroValue42 w
theorem built_rel (a : Int) : Tryz.prog.built 42 [(0, I a)] = some (relC ⟨a, fun _ => 0#64⟩) := by
  rw [relC_def]; rfl
theorem relT_fields : Tryz.prog.fieldsOf 42 = #[{ name := "N", type := 3, offset := 0, embedded := false, tag := "", pkgPath := "", byteOffset := 0 }, { name := "Up", type := 40, offset := 1, embedded := false, tag := "", pkgPath := "", byteOffset := 8 }] := by
  unfold Program.fieldsOf; rw [Tryz.underlying42]
theorem relT_fact : RelT Tryz.prog 42 { name := "N", type := 3, offset := 0, embedded := false, tag := "", pkgPath := "", byteOffset := 0 } { name := "Up", type := 40, offset := 1, embedded := false, tag := "", pkgPath := "", byteOffset := 8 } 28 :=
  ⟨by rw [relT_fields]; exact Tryz.underlying42, relT_fields, by decide, by decide, rfl, rfl, Tryz.underlying3, Tryz.isAgg3, Tryz.underlying40, Tryz.isAgg40, Tryz.sizeOf40, Tryz.underlying28, Tryz.sizeOf28, Tryz.isAgg28, by kernel_rfl, by kernel_rfl⟩
theorem zero_arr : ∀ w, (zeroValue 74).run Tryz.prog w = .ok (.agg (arrC fun _ => 0)) w := fun w => by
  rw [arrC_zero]; exact Tryz.zeroValue74 w
theorem elT_fact : ElT Tryz.prog 30 28 := ⟨Tryz.underlying30, Tryz.underlying28, Tryz.sizeOf28, Tryz.isAgg28, by kernel_rfl⟩
theorem zero_el : ∀ w, (zeroValue 30).run Tryz.prog w = .ok (.agg (elC el0)) w := fun w => by
  rw [elC_zero]; exact Tryz.zeroValue30 w
theorem zero_fac : ∀ w, (zeroValue 44).run Tryz.prog w = .ok (.agg (facC fac0)) w := fun w => Tryz.zeroValue44 w
theorem built_rel0 : Tryz.prog.built 42 [] = some (relC Rl.none) := by
  rw [relC_def]; rfl
theorem built_shpT {v : Value} (h : v.cells = #[v]) : Tryz.prog.built 24 [(0, B true), (1, v)] = some #[B true, v] :=
  (show Tryz.prog.built 24 [(0, B true), (1, v)] = Instr.fill (#[(0, 1), (1, 1)][·]?) #[B false, .slice none 0 0] [(0, B true), (1, v)] from rfl).trans (by simp only [Instr.fill, h]; rfl)
theorem built_shp1 {v : Value} (h : v.cells = #[v]) : Tryz.prog.built 24 [(1, v)] = some #[B false, v] :=
  (show Tryz.prog.built 24 [(1, v)] = Instr.fill (#[(0, 1), (1, 1)][·]?) #[B false, .slice none 0 0] [(1, v)] from rfl).trans (by simp only [Instr.fill, h]; rfl)
theorem built_shp0 : Tryz.prog.built 24 [(0, B true)] = some #[B true, .slice none 0 0] := rfl
theorem built_fac (k : Int) (b n : Nat) (l : List Tx) : Tryz.prog.built 44 [(0, I k), (1, .slice (some ⟨b, 0, none⟩) n n)] = some (facC ⟨k, .slice (some ⟨b, 0, none⟩) n n, l, Rl.none⟩) := rfl
theorem built_el2 (a b : BitVec 64) : Tryz.prog.built 30 [(0, U a), (1, U b)] = some (elC (putE (putE el0 0 a) 1 b)) := by
  rw [elC_def]; rfl
theorem built_el1 (a : BitVec 64) : Tryz.prog.built 30 [(0, U a)] = some (elC (putE el0 0 a)) := by
  rw [elC_def]; rfl

theorem c_rung_chain (n : Int) (w : World) : Calls Tryz.prog 121 #[I n] w (Pure (B (chainB n)) w) := by
  refine enter Tryz.func121 rfl Tryz.ntmps121 rfl ?_
  have hH := Hp.start w
  refine CW.seq ?_
  refine CW.region ?_
  refine RL.val rfl (run_assign (v := B false) rfl) ?_
  refine RL.nil ?_
  refine CW.seq ?_
  refine CW.region ?_
  refine RL.val rfl (run_move (v := I _) rfl) ?_
  refine RL.val rfl (run_geq rfl rfl) ?_
  refine RL.val rfl (run_move (v := B _) rfl) ?_
  refine RL.splitP (dj := 5) rfl (fun h2 => ?_) (fun h2 => ?_)
  · refine RL.gT rfl (bT h2) ?_
    refine RL.val rfl (run_move (v := I _) rfl) ?_
    refine RL.gT rfl (bT h2) ?_
    refine RL.val rfl (run_leq rfl rfl) ?_
    refine RL.val rfl (run_pickT (bT h2) (v := B _) rfl) ?_
    refine RL.val rfl (run_assign (v := B _) rfl) ?_
    refine RL.nil ?_
    refine CW.ret ?_
    refine outP1 Tryz.results121 (congrArg B ?_) hH.below
    (simp [chainB]; omega)
  · refine RL.gF rfl rfl (bF h2) rfl ?_
    refine RL.gF rfl rfl (bF h2) rfl ?_
    refine RL.val rfl (run_pickF (bF h2) (v := B false) rfl) ?_
    refine RL.val rfl (run_assign (v := B _) rfl) ?_
    refine RL.nil ?_
    refine CW.ret ?_
    refine outP1 Tryz.results121 (congrArg B ?_) hH.below
    (simp [chainB]; omega)

theorem c_mask_Below (n : Int) (w : World) : Calls Tryz.prog 64 #[I n] w (Pure (U (below n)) w) := by
  refine enter Tryz.func64 rfl Tryz.ntmps64 rfl ?_
  have hH := Hp.start w
  refine CW.seq ?_
  refine CW.region ?_
  refine RL.val rfl (run_assign (v := U 0#64) rfl) ?_
  refine RL.nil ?_
  refine CW.seq ?_
  refine CW.seq ?_
  refine CW.region ?_
  refine RL.val rfl (run_move (v := I _) rfl) ?_
  refine RL.val rfl (run_leq rfl rfl) ?_
  refine RL.nil ?_
  refine CW.condP rfl (fun h2 => ?_) (fun h2 => ?_)
  · refine CW.seq ?_
    refine CW.region ?_
    refine RL.val rfl (run_assign (v := U 0#64) rfl) ?_
    refine RL.nil ?_
    refine CW.ret ?_
    exact outP1 Tryz.results64 (congrArg U (below_nonpos ‹_›).symm) hH.below
  · refine CW.skip ?_
    refine CW.seq ?_
    refine CW.seq ?_
    refine CW.region ?_
    refine RL.val rfl (run_move (v := I _) rfl) ?_
    refine RL.val rfl (run_geq rfl rfl) ?_
    refine RL.nil ?_
    refine CW.condP rfl (fun h4 => ?_) (fun h4 => ?_)
    · refine CW.seq ?_
      refine CW.region ?_
      refine RL.val rfl (run_assign (v := U 18446744073709551615#64) rfl) ?_
      refine RL.nil ?_
      refine CW.ret ?_
      exact outP1 Tryz.results64 (congrArg U (below_all ‹_›).symm) hH.below
    · refine CW.skip ?_
      refine CW.seq ?_
      refine CW.region ?_
      refine RL.val rfl (run_move (v := I _) rfl) ?_
      refine RL.val rfl (run_convIU Tryz.underlying3 Tryz.underlying88 rfl) ?_
      refine RL.val rfl (run_shlU (a := 1#64) rfl rfl) ?_
      refine RL.val rfl (run_subU rfl (b := 1#64) rfl) ?_
      refine RL.val rfl (run_assign (v := U _) rfl) ?_
      refine RL.nil ?_
      refine CW.ret ?_
      exact outP1 Tryz.results64 (congrArg U (below_mid ‹_› ‹_›).symm) hH.below

theorem c_rung_Word (n k : Int) (w : World) : Calls Tryz.prog 96 #[I n, I k] w (Pure (.tuple #[U (wordv n k).1, B (wordv n k).2]) w) := by
  refine enter Tryz.func96 rfl Tryz.ntmps96 rfl ?_
  have hH := Hp.start w
  refine CW.seq ?_
  refine CW.region ?_
  refine RL.val rfl (run_assign (v := U 0#64) rfl) ?_
  refine RL.val rfl (run_assign (v := B false) rfl) ?_
  refine RL.nil ?_
  refine CW.seq ?_
  refine CW.seq ?_
  refine CW.region ?_
  refine RL.val rfl (run_move (v := I _) rfl) ?_
  refine RL.callP rfl hH (c_rung_chain _  _) (run_call1 Tryz.call121 rfl) ?_
  intro w1 hH2
  refine RL.val rfl (run_not rfl) ?_
  refine RL.val rfl (run_move (v := B _) rfl) ?_
  refine RL.split (dj := 9) rfl (fun h5 => ?_) (fun h5 => ?_)
  · refine RL.gF rfl rfl (bR (c := true) h5) rfl ?_
    refine RL.gF rfl rfl (bR (c := true) h5) rfl ?_
    refine RL.val rfl (run_pickT (bR (c := true) h5) (v := B true) rfl) ?_
    refine RL.val rfl (run_move (v := B _) rfl) ?_
    refine RL.gF rfl rfl rfl rfl ?_
    refine RL.gF rfl rfl rfl rfl ?_
    refine RL.gF rfl rfl rfl rfl ?_
    refine RL.val rfl (run_pickT rfl (v := B true) rfl) ?_
    refine RL.nil ?_
    refine CW.condT rfl ?_
    refine CW.seq ?_
    refine CW.region ?_
    refine RL.val rfl (run_assign (v := U 0#64) rfl) ?_
    refine RL.val rfl (run_assign (v := B false) rfl) ?_
    refine RL.nil ?_
    refine CW.ret ?_
    have hn := chain_f ‹(!chainB n) = true›
    refine outP2 Tryz.results96 (congrArg U ?_) (congrArg B ?_) hH2.below <;> rw [wordv_no (by omega)]
  · refine RL.gT rfl (bR (c := false) h5) ?_
    refine RL.val rfl (run_move (v := I _) rfl) ?_
    refine RL.gT rfl (bR (c := false) h5) ?_
    refine RL.val rfl (run_lss rfl rfl) ?_
    refine RL.val rfl (run_pickF (bR (c := false) h5) (v := B _) rfl) ?_
    refine RL.val rfl (run_move (v := B _) rfl) ?_
    refine RL.splitP (dj := 13) rfl (fun h7 => ?_) (fun h7 => ?_)
    · refine RL.gF rfl rfl (bT h7) rfl ?_
      refine RL.gF rfl rfl (bT h7) rfl ?_
      refine RL.gF rfl rfl (bT h7) rfl ?_
      refine RL.val rfl (run_pickT (bT h7) (v := B true) rfl) ?_
      refine RL.nil ?_
      refine CW.condT rfl ?_
      refine CW.seq ?_
      refine CW.region ?_
      refine RL.val rfl (run_assign (v := U 0#64) rfl) ?_
      refine RL.val rfl (run_assign (v := B false) rfl) ?_
      refine RL.nil ?_
      refine CW.ret ?_
      have hn := chain_t ‹(!chainB n) = false›
      refine outP2 Tryz.results96 (congrArg U ?_) (congrArg B ?_) hH2.below <;> rw [wordv_no (by omega)]
    · refine RL.gT rfl (bF h7) ?_
      refine RL.val rfl (run_move (v := I _) rfl) ?_
      refine RL.gT rfl (bF h7) ?_
      refine RL.val rfl (run_move (v := I _) rfl) ?_
      refine RL.gT rfl (bF h7) ?_
      refine RL.val rfl (run_geq rfl rfl) ?_
      refine RL.val rfl (run_pickF (bF h7) (v := B _) rfl) ?_
      refine RL.nil ?_
      refine CW.condP rfl (fun h9 => ?_) (fun h9 => ?_)
      · refine CW.seq ?_
        refine CW.region ?_
        refine RL.val rfl (run_assign (v := U 0#64) rfl) ?_
        refine RL.val rfl (run_assign (v := B false) rfl) ?_
        refine RL.nil ?_
        refine CW.ret ?_
        have hn := chain_t ‹(!chainB n) = false›
        refine outP2 Tryz.results96 (congrArg U ?_) (congrArg B ?_) hH2.below <;> rw [wordv_no (by omega)]
      · refine CW.skip ?_
        refine CW.seq ?_
        refine CW.region ?_
        refine RL.val rfl (run_move (v := I _) rfl) ?_
        refine RL.callP rfl hH2 (c_mask_Below _  _) (run_call1 Tryz.call64 rfl) ?_
        intro w10 hH11
        refine RL.val rfl (run_assign (v := U _) rfl) ?_
        refine RL.val rfl (run_assign (v := B true) rfl) ?_
        refine RL.nil ?_
        refine CW.ret ?_
        have hn := chain_t ‹(!chainB n) = false›
        refine outP2 Tryz.results96 (congrArg U ?_) (congrArg B ?_) hH11.below <;> rw [wordv_yes (by omega)]

theorem c_rung_Level (n : Int) (s : BitVec 64) (w : World) : Calls Tryz.prog 104 #[I n, U s] w (Pure (.tuple #[I (level n s).1, B (level n s).2]) w) := by
  refine enter Tryz.func104 rfl Tryz.ntmps104 rfl ?_
  have hH := Hp.start w
  refine CW.seq ?_
  refine CW.region ?_
  refine RL.val rfl (run_assign (v := I 0) rfl) ?_
  refine RL.val rfl (run_assign (v := B false) rfl) ?_
  refine RL.nil ?_
  refine CW.seq ?_
  refine CW.seq ?_
  refine CW.region ?_
  refine RL.val rfl (run_move (v := I _) rfl) ?_
  refine RL.callP rfl hH (c_rung_chain _  _) (run_call1 Tryz.call121 rfl) ?_
  intro w1 hH2
  refine RL.val rfl (run_not rfl) ?_
  refine RL.nil ?_
  refine CW.cond rfl (fun h5 => ?_) (fun h5 => ?_)
  · refine CW.seq ?_
    refine CW.region ?_
    refine RL.val rfl (run_assign (v := I 0) rfl) ?_
    refine RL.val rfl (run_assign (v := B false) rfl) ?_
    refine RL.nil ?_
    refine CW.ret ?_
    have hn := chain_f ‹(!chainB n) = true›
    refine outP2 Tryz.results104 (congrArg I ?_) (congrArg B ?_) hH2.below <;> rw [level_no s hn]
  · refine CW.skip ?_
    refine CW.seq ?_
    refine CW.seq ?_
    refine CW.region ?_
    refine RL.val rfl (run_move (v := I _) rfl) ?_
    refine RL.val rfl (run_move (v := I 0) rfl) ?_
    refine RL.nil ?_
    refine CW.block ?_
    have hn := chain_t ‹(!chainB n) = false›
    refine CW.loop (G := (Int)) (fun (k : Int) s' w' => (Fr [4, 5, 6, 11, 12, 13, 14, 15, 16, 17, 18, 19] _ s') ∧ (Hp w w' _) ∧ (s' 11 = I k) ∧ (0 ≤ k) ∧ (k ≤ n) ∧ (∀ j : Int, 0 ≤ j → j < k → s ≠ below j)) (fun (k : Int) => (n - k).toNat) (0) ⟨Fr.refl _ _, hH2, rfl, (by omega), (by omega), fun j a b => absurd b (by omega)⟩ ?_
    rintro k sg6 w6 ⟨fr6, hH6, e11_6, h0, hk, hf⟩
    have e1_6 : sg6 1 = U _ := (fr6 1 rfl).trans rfl
    have e10_6 : sg6 10 = I _ := (fr6 10 rfl).trans rfl
    refine CW.seq ?_
    refine CW.region ?_
    refine RL.val rfl (run_lss e11_6 e10_6) ?_
    refine RL.nil ?_
    refine CW.seq ?_
    refine CW.condP rfl (fun h8 => ?_) (fun h8 => ?_)
    · refine CW.skip ?_
      refine CW.seq ?_
      refine CW.block ?_
      refine CW.seq ?_
      refine CW.region ?_
      refine RL.val rfl (run_move e11_6) ?_
      refine RL.val rfl (run_assign (v := I _) rfl) ?_
      refine RL.nil ?_
      refine CW.seq ?_
      refine CW.region ?_
      refine RL.val rfl (run_move e1_6) ?_
      refine RL.val rfl (run_move (v := I _) rfl) ?_
      refine RL.callP rfl hH6 (c_mask_Below _  _) (run_call1 Tryz.call64 rfl) ?_
      intro w9 hH10
      refine RL.val rfl (run_eqlU rfl rfl) ?_
      refine RL.nil ?_
      refine CW.condP rfl (fun h12 => ?_) (fun h12 => ?_)
      · refine CW.seq ?_
        refine CW.region ?_
        refine RL.val rfl (run_move (v := I _) rfl) ?_
        refine RL.val rfl (run_assign (v := I _) rfl) ?_
        refine RL.val rfl (run_assign (v := B true) rfl) ?_
        refine RL.nil ?_
        refine CW.ret ?_
        refine outP2 Tryz.results104 (congrArg I ?_) (congrArg B ?_) hH10.below <;> rw [level_at hn h0 (by omega) ‹_› hf]
      · refine CW.skip ?_
        refine CW.region ?_
        refine RL.val rfl (run_add e11_6 rfl (by omega)) ?_
        refine RL.val rfl (run_move (v := I _) rfl) ?_
        refine RL.nil ?_
        refine ⟨k + 1, ?_, ((((((((fr6.u rfl).u rfl).u rfl).u rfl).u rfl).u rfl).u rfl).u rfl).u rfl, hH10, (congrArg I (by first | rfl | omega)), ?_, ?_, ?_⟩
        · ((try dsimp only); omega)
        · omega
        · omega
        · exact fun j a b => if e : j = k then e ▸ ‹¬ s = below k› else hf j a (by omega)
    · refine CW.exit (id := 0) rfl ?_
      refine CW.seq ?_
      refine CW.region ?_
      refine RL.val rfl (run_assign (v := I 0) rfl) ?_
      refine RL.val rfl (run_assign (v := B false) rfl) ?_
      refine RL.nil ?_
      refine CW.ret ?_
      refine outP2 Tryz.results104 (congrArg I ?_) (congrArg B ?_) hH6.below <;> rw [level_none hn (fun j a b => hf j a (by omega))]

theorem c_mask_in (i : Int) (w : World) : Calls Tryz.prog 134 #[I i] w (Pure (B (inB i)) w) := by
  refine enter Tryz.func134 rfl Tryz.ntmps134 rfl ?_
  have hH := Hp.start w
  refine CW.seq ?_
  refine CW.region ?_
  refine RL.val rfl (run_assign (v := B false) rfl) ?_
  refine RL.nil ?_
  refine CW.seq ?_
  refine CW.region ?_
  refine RL.val rfl (run_move (v := I _) rfl) ?_
  refine RL.val rfl (run_geq rfl rfl) ?_
  refine RL.val rfl (run_move (v := B _) rfl) ?_
  refine RL.splitP (dj := 5) rfl (fun h2 => ?_) (fun h2 => ?_)
  · refine RL.gT rfl (bT h2) ?_
    refine RL.val rfl (run_move (v := I _) rfl) ?_
    refine RL.gT rfl (bT h2) ?_
    refine RL.val rfl (run_lss rfl rfl) ?_
    refine RL.val rfl (run_pickT (bT h2) (v := B _) rfl) ?_
    refine RL.val rfl (run_assign (v := B _) rfl) ?_
    refine RL.nil ?_
    refine CW.ret ?_
    refine outP1 Tryz.results134 (congrArg B ?_) hH.below
    (simp [inB]; try omega)
  · refine RL.gF rfl rfl (bF h2) rfl ?_
    refine RL.gF rfl rfl (bF h2) rfl ?_
    refine RL.val rfl (run_pickF (bF h2) (v := B false) rfl) ?_
    refine RL.val rfl (run_assign (v := B _) rfl) ?_
    refine RL.nil ?_
    refine CW.ret ?_
    refine outP1 Tryz.results134 (congrArg B ?_) hH.below
    (simp [inB]; try omega)

theorem c_mask_Has (s : BitVec 64) (i : Int) (w : World) : Calls Tryz.prog 132 #[U s, I i] w (Pure (B (hasB s i)) w) := by
  refine enter Tryz.func132 rfl Tryz.ntmps132 rfl ?_
  have hH := Hp.start w
  refine CW.seq ?_
  refine CW.region ?_
  refine RL.val rfl (run_assign (v := B false) rfl) ?_
  refine RL.nil ?_
  refine CW.seq ?_
  refine CW.region ?_
  refine RL.val rfl (run_move (v := I _) rfl) ?_
  refine RL.callP rfl hH (c_mask_in _  _) (run_call1 Tryz.call134 rfl) ?_
  intro w1 hH2
  refine RL.val rfl (run_move (v := B _) rfl) ?_
  refine RL.split (dj := 7) rfl (fun h4 => ?_) (fun h4 => ?_)
  · refine RL.gT rfl (bR (c := true) h4) ?_
    refine RL.val rfl (run_move (v := U _) rfl) ?_
    refine RL.gT rfl (bR (c := true) h4) ?_
    refine RL.val rfl (run_move (v := I _) rfl) ?_
    refine RL.gT rfl (bR (c := true) h4) ?_
    refine RL.val rfl (run_convIU Tryz.underlying3 Tryz.underlying88 rfl) ?_
    refine RL.gT rfl (bR (c := true) h4) ?_
    refine RL.val rfl (run_shrU rfl rfl) ?_
    refine RL.gT rfl (bR (c := true) h4) ?_
    refine RL.val rfl (run_andU rfl (b := 1#64) rfl) ?_
    refine RL.gT rfl (bR (c := true) h4) ?_
    refine RL.val rfl (run_eqlU rfl (b := 1#64) rfl) ?_
    refine RL.val rfl (run_pickT (bR (c := true) h4) (v := B _) rfl) ?_
    refine RL.val rfl (run_assign (v := B _) rfl) ?_
    refine RL.nil ?_
    refine CW.ret ?_
    refine outP1 Tryz.results132 (congrArg B ?_) hH2.below
    exact has_bit s ‹inB i = true›
  · refine RL.gF rfl rfl (bR (c := false) h4) rfl ?_
    refine RL.gF rfl rfl (bR (c := false) h4) rfl ?_
    refine RL.gF rfl rfl (bR (c := false) h4) rfl ?_
    refine RL.gF rfl rfl (bR (c := false) h4) rfl ?_
    refine RL.gF rfl rfl (bR (c := false) h4) rfl ?_
    refine RL.gF rfl rfl (bR (c := false) h4) rfl ?_
    refine RL.val rfl (run_pickF (bR (c := false) h4) (v := B false) rfl) ?_
    refine RL.val rfl (run_assign (v := B _) rfl) ?_
    refine RL.nil ?_
    refine CW.ret ?_
    refine outP1 Tryz.results132 (congrArg B ?_) hH2.below
    exact (has_no s ‹inB i = false›).symm

theorem c_mask_With (s : BitVec 64) (i : Int) (w : World) : Calls Tryz.prog 131 #[U s, I i] w (Pure (U (withB s i)) w) := by
  refine enter Tryz.func131 rfl Tryz.ntmps131 rfl ?_
  have hH := Hp.start w
  refine CW.seq ?_
  refine CW.region ?_
  refine RL.val rfl (run_assign (v := U 0#64) rfl) ?_
  refine RL.nil ?_
  refine CW.seq ?_
  refine CW.seq ?_
  refine CW.region ?_
  refine RL.val rfl (run_move (v := I _) rfl) ?_
  refine RL.callP rfl hH (c_mask_in _  _) (run_call1 Tryz.call134 rfl) ?_
  intro w1 hH2
  refine RL.val rfl (run_not rfl) ?_
  refine RL.nil ?_
  refine CW.cond rfl (fun h5 => ?_) (fun h5 => ?_)
  · refine CW.seq ?_
    refine CW.region ?_
    refine RL.val rfl (run_move (v := U _) rfl) ?_
    refine RL.val rfl (run_assign (v := U _) rfl) ?_
    refine RL.nil ?_
    refine CW.ret ?_
    refine outP1 Tryz.results131 (congrArg U ?_) hH2.below
    simp_all [withB]
  · refine CW.skip ?_
    refine CW.seq ?_
    refine CW.region ?_
    refine RL.val rfl (run_move (v := U _) rfl) ?_
    refine RL.val rfl (run_move (v := I _) rfl) ?_
    refine RL.val rfl (run_convIU Tryz.underlying3 Tryz.underlying88 rfl) ?_
    refine RL.val rfl (run_shlU (a := 1#64) rfl rfl) ?_
    refine RL.val rfl (run_orU rfl rfl) ?_
    refine RL.val rfl (run_assign (v := U _) rfl) ?_
    refine RL.nil ?_
    refine CW.ret ?_
    refine outP1 Tryz.results131 (congrArg U ?_) hH2.below
    simp_all [withB]

theorem c_mask_Without (s : BitVec 64) (i : Int) (w : World) : Calls Tryz.prog 125 #[U s, I i] w (Pure (U (lessB s i)) w) := by
  refine enter Tryz.func125 rfl Tryz.ntmps125 rfl ?_
  have hH := Hp.start w
  refine CW.seq ?_
  refine CW.region ?_
  refine RL.val rfl (run_assign (v := U 0#64) rfl) ?_
  refine RL.nil ?_
  refine CW.seq ?_
  refine CW.seq ?_
  refine CW.region ?_
  refine RL.val rfl (run_move (v := I _) rfl) ?_
  refine RL.callP rfl hH (c_mask_in _  _) (run_call1 Tryz.call134 rfl) ?_
  intro w1 hH2
  refine RL.val rfl (run_not rfl) ?_
  refine RL.nil ?_
  refine CW.cond rfl (fun h5 => ?_) (fun h5 => ?_)
  · refine CW.seq ?_
    refine CW.region ?_
    refine RL.val rfl (run_move (v := U _) rfl) ?_
    refine RL.val rfl (run_assign (v := U _) rfl) ?_
    refine RL.nil ?_
    refine CW.ret ?_
    refine outP1 Tryz.results125 (congrArg U ?_) hH2.below
    simp_all [lessB]
  · refine CW.skip ?_
    refine CW.seq ?_
    refine CW.region ?_
    refine RL.val rfl (run_move (v := U _) rfl) ?_
    refine RL.val rfl (run_move (v := I _) rfl) ?_
    refine RL.val rfl (run_convIU Tryz.underlying3 Tryz.underlying88 rfl) ?_
    refine RL.val rfl (run_shlU (a := 1#64) rfl rfl) ?_
    refine RL.val rfl (run_andNotU rfl rfl) ?_
    refine RL.val rfl (run_assign (v := U _) rfl) ?_
    refine RL.nil ?_
    refine CW.ret ?_
    refine outP1 Tryz.results125 (congrArg U ?_) hH2.below
    simp_all [lessB]

theorem c_mask_Sub (a b : BitVec 64) (w : World) : Calls Tryz.prog 43 #[U a, U b] w (Pure (B (subB a b)) w) := by
  refine enter Tryz.func43 rfl Tryz.ntmps43 rfl ?_
  have hH := Hp.start w
  refine CW.seq ?_
  refine CW.region ?_
  refine RL.val rfl (run_assign (v := B false) rfl) ?_
  refine RL.nil ?_
  refine CW.seq ?_
  refine CW.region ?_
  refine RL.val rfl (run_move (v := U _) rfl) ?_
  refine RL.val rfl (run_move (v := U _) rfl) ?_
  refine RL.val rfl (run_andNotU rfl rfl) ?_
  refine RL.val rfl (run_eqlU rfl (b := 0#64) rfl) ?_
  refine RL.val rfl (run_assign (v := B _) rfl) ?_
  refine RL.nil ?_
  refine CW.ret ?_
  refine outP1 Tryz.results43 (congrArg B ?_) hH.below
  rfl

theorem c_mask_Of (v : Value) (l : List Int) (w : World) (hs : Sl w v 1 l.length (l.map I)) : Calls Tryz.prog 117 #[v] w (Pure (U (ofl l)) w) := by
  have hm := hs.small
  unfold maxLen at hm
  refine enter Tryz.func117 rfl Tryz.ntmps117 rfl ?_
  have hH := Hp.start w
  refine CW.seq ?_
  refine CW.region ?_
  refine RL.val rfl (run_assign (v := U 0#64) rfl) ?_
  refine RL.nil ?_
  refine CW.seq ?_
  refine CW.region ?_
  refine RL.val rfl (run_assign (v := U 0#64) rfl) ?_
  refine RL.nil ?_
  refine CW.seq ?_
  refine CW.seq ?_
  refine CW.region ?_
  refine RL.val rfl (run_move (by conv => lhs; whnf)) ?_
  refine RL.val rfl (run_lenSl (hs.hp hH) rfl Tryz.underlying72 rfl) ?_
  refine RL.val rfl (run_move (v := I 0) rfl) ?_
  refine RL.nil ?_
  refine CW.block ?_
  refine CW.loop (G := (Int)) (fun (k : Int) s' w' => (Fr [3, 5, 8, 9, 10, 11, 12, 13, 14, 15] _ s') ∧ (Hp w w' _) ∧ (s' 3 = U (ofl (l.take k.toNat))) ∧ (s' 8 = I k) ∧ (0 ≤ k) ∧ (k ≤ l.length)) (fun (k : Int) => (l.length - k).toNat) (0) ⟨Fr.refl _ _, hH, (congrArg U (by simp [ofl_nil])), rfl, (by omega), (by omega)⟩ ?_
  rintro k sg1 w1 ⟨fr1, hH1, e3_1, e8_1, h0, hk⟩
  have e2_1 : sg1 2 = U _ := (fr1 2 rfl).trans rfl
  have e6_1 := (fr1 6 rfl).trans (by conv => lhs; whnf)
  have e7_1 : sg1 7 = I _ := (fr1 7 rfl).trans rfl
  refine CW.seq ?_
  refine CW.region ?_
  refine RL.val rfl (run_lss e8_1 e7_1) ?_
  refine RL.nil ?_
  refine CW.seq ?_
  refine CW.condP rfl (fun h3 => ?_) (fun h3 => ?_)
  · refine CW.skip ?_
    refine CW.seq ?_
    refine CW.block ?_
    refine CW.seq ?_
    refine CW.region ?_
    refine RL.val rfl (run_indexAddrS (hs.hp hH1) Tryz.underlying72 Tryz.sizeOf3 e6_1 e8_1 (by omega)) ?_
    refine RL.val rfl (run_ld Tryz.underlying3 rfl rfl ((hs.hp hH1).cell _ _ (map_at (by omega)))) ?_
    refine RL.val rfl (run_assign (v := I _) rfl) ?_
    refine RL.nil ?_
    refine CW.region ?_
    refine RL.val rfl (run_move e3_1) ?_
    refine RL.val rfl (run_move (v := I _) rfl) ?_
    refine RL.callP rfl hH1 (c_mask_With _ _  _) (run_call2 Tryz.call131 rfl rfl) ?_
    intro w4 hH5
    refine RL.val rfl (run_assign (v := U _) rfl) ?_
    refine RL.nil ?_
    refine CW.region ?_
    refine RL.val rfl (run_add e8_1 rfl (by omega)) ?_
    refine RL.val rfl (run_move (v := I _) rfl) ?_
    refine RL.nil ?_
    refine ⟨k + 1, ?_, (((((((((fr1.u rfl).u rfl).u rfl).u rfl).u rfl).u rfl).u rfl).u rfl).u rfl).u rfl, hH5, (congrArg U (by rw [withB_ofl, ← take_next h0 ‹_›])), (congrArg I (by first | rfl | omega)), ?_, ?_⟩
    · ((try dsimp only); omega)
    · omega
    · omega
  · refine CW.exit (id := 0) rfl ?_
    refine CW.seq ?_
    refine CW.region ?_
    refine RL.val rfl (run_move e3_1) ?_
    refine RL.val rfl (run_assign (v := U _) rfl) ?_
    refine RL.nil ?_
    refine CW.ret ?_
    refine outP1 Tryz.results117 (congrArg U ?_) hH1.below
    rw [take_all ‹_›]

theorem c_clearanceref01_Has (s : BitVec 64) (i : Int) (w : World) : Calls Tryz.prog 78 #[U s, I i] w (Pure (B (hasB s i)) w) := by
  refine enter Tryz.func78 rfl Tryz.ntmps78 rfl ?_
  have hH := Hp.start w
  refine CW.seq ?_
  refine CW.region ?_
  refine RL.val rfl (run_assign (v := B false) rfl) ?_
  refine RL.nil ?_
  refine CW.seq ?_
  refine CW.seq ?_
  refine CW.region ?_
  refine RL.val rfl (run_move (v := I _) rfl) ?_
  refine RL.val rfl (run_lss rfl rfl) ?_
  refine RL.val rfl (run_move (v := B _) rfl) ?_
  refine RL.splitP (dj := 8) rfl (fun h2 => ?_) (fun h2 => ?_)
  · refine RL.gF rfl rfl (bT h2) rfl ?_
    refine RL.gF rfl rfl (bT h2) rfl ?_
    refine RL.val rfl (run_pickT (bT h2) (v := B true) rfl) ?_
    refine RL.nil ?_
    refine CW.condT rfl ?_
    refine CW.seq ?_
    refine CW.region ?_
    refine RL.val rfl (run_assign (v := B false) rfl) ?_
    refine RL.nil ?_
    refine CW.ret ?_
    refine outP1 Tryz.results78 (congrArg B ?_) hH.below
    exact (has_no s (by simp [inB]; omega)).symm
  · refine RL.gT rfl (bF h2) ?_
    refine RL.val rfl (run_move (v := I _) rfl) ?_
    refine RL.gT rfl (bF h2) ?_
    refine RL.val rfl (run_gtr rfl rfl) ?_
    refine RL.val rfl (run_pickF (bF h2) (v := B _) rfl) ?_
    refine RL.nil ?_
    refine CW.condP rfl (fun h4 => ?_) (fun h4 => ?_)
    · refine CW.seq ?_
      refine CW.region ?_
      refine RL.val rfl (run_assign (v := B false) rfl) ?_
      refine RL.nil ?_
      refine CW.ret ?_
      refine outP1 Tryz.results78 (congrArg B ?_) hH.below
      exact (has_no s (by simp [inB]; omega)).symm
    · refine CW.skip ?_
      refine CW.seq ?_
      refine CW.seq ?_
      refine CW.region ?_
      refine RL.val rfl (run_assign (v := I 0) rfl) ?_
      refine RL.nil ?_
      refine CW.block ?_
      refine CW.loop (G := (Int)) (fun (k : Int) s' w' => (Fr [0, 5, 12, 13, 14, 15, 16, 17, 18] _ s') ∧ (Hp w w' _) ∧ (s' 0 = U (s >>> k.toNat)) ∧ (s' 5 = I k) ∧ (0 ≤ k) ∧ (k ≤ i)) (fun (k : Int) => (i - k).toNat) (0) ⟨Fr.refl _ _, hH, (congrArg U (by simp)), rfl, (by omega), (by omega)⟩ ?_
      rintro k sg5 w5 ⟨fr5, hH5, e0_5, e5_5, h0, hk⟩
      have e1_5 : sg5 1 = I _ := (fr5 1 rfl).trans rfl
      have e4_5 : sg5 4 = B _ := (fr5 4 rfl).trans rfl
      refine CW.seq ?_
      refine CW.seq ?_
      refine CW.region ?_
      refine RL.val rfl (run_move e5_5) ?_
      refine RL.val rfl (run_move e1_5) ?_
      refine RL.val rfl (run_lss rfl rfl) ?_
      refine RL.nil ?_
      refine CW.condP rfl (fun h7 => ?_) (fun h7 => ?_)
      · refine CW.skip ?_
        refine CW.seq ?_
        refine CW.block ?_
        refine CW.region ?_
        refine RL.val rfl (run_move e0_5) ?_
        refine RL.val rfl (run_quoU rfl (b := 2#64) rfl (by decide)) ?_
        refine RL.val rfl (run_assign (v := U _) rfl) ?_
        refine RL.nil ?_
        refine CW.region ?_
        refine RL.val rfl (run_move e5_5) ?_
        refine RL.val rfl (run_add rfl rfl (by omega)) ?_
        refine RL.val rfl (run_assign (v := I _) rfl) ?_
        refine RL.nil ?_
        refine ⟨k + 1, ?_, ((((((((fr5.u rfl).u rfl).u rfl).u rfl).u rfl).u rfl).u rfl).u rfl).u rfl, hH5, (congrArg U (by rw [half, show (k + 1).toNat = k.toNat + 1 by omega])), (congrArg I (by first | rfl | omega)), ?_, ?_⟩
        · ((try dsimp only); omega)
        · omega
        · omega
      · refine CW.exit (id := 0) rfl ?_
        refine CW.seq ?_
        refine CW.region ?_
        refine RL.val rfl (run_move e0_5) ?_
        refine RL.val rfl (run_remU rfl (b := 2#64) rfl (by decide)) ?_
        refine RL.val rfl (run_eqlU rfl (b := 1#64) rfl) ?_
        refine RL.val rfl (run_assign (v := B _) rfl) ?_
        refine RL.nil ?_
        refine CW.ret ?_
        refine outP1 Tryz.results78 (congrArg B ?_) hH5.below
        (rw [hasB, show inB i = true by simp [inB]; omega, show k = i by omega]; rw [Bool.eq_iff_iff]; simp only [decide_eq_true_eq, Bool.true_and]; exact rem_bit s _)

theorem c_clearanceref01_Of (v : Value) (l : List Int) (w : World) (hs : Sl w v 1 l.length (l.map I)) : Calls Tryz.prog 62 #[v] w (Pure (U (ofl l)) w) := by
  have hm := hs.small
  unfold maxLen at hm
  refine enter Tryz.func62 rfl Tryz.ntmps62 rfl ?_
  have hH := Hp.start w
  refine CW.seq ?_
  refine CW.region ?_
  refine RL.val rfl (run_assign (v := U 0#64) rfl) ?_
  refine RL.nil ?_
  refine CW.seq ?_
  refine CW.region ?_
  refine RL.val rfl (run_assign (v := U 0#64) rfl) ?_
  refine RL.val rfl (run_assign (v := U 1#64) rfl) ?_
  refine RL.nil ?_
  refine CW.seq ?_
  refine CW.seq ?_
  refine CW.region ?_
  refine RL.val rfl (run_assign (v := I 0) rfl) ?_
  refine RL.nil ?_
  refine CW.block ?_
  refine CW.loop (G := (Int)) (fun (i : Int) s' w' => (Fr [3, 4, 5, 6, 7, 8, 9, 10, 11, 12, 13, 14, 15, 16, 17, 18, 19, 20, 21, 22, 23, 24, 25, 26, 27] _ s') ∧ (Hp w w' _) ∧ (s' 3 = U (oflTo l i.toNat)) ∧ (s' 4 = U (1#64 <<< i.toNat)) ∧ (s' 5 = I i) ∧ (0 ≤ i) ∧ (i ≤ 64)) (fun (i : Int) => (64 - i).toNat) (0) ⟨Fr.refl _ _, hH, (congrArg U (by rfl)), (congrArg U (by rfl)), rfl, (by omega), (by omega)⟩ ?_
  rintro i sg1 w1 ⟨fr1, hH1, e3_1, e4_1, e5_1, i0, i1⟩
  have e0_1 := (fr1 0 rfl).trans (by conv => lhs; whnf)
  have e2_1 : sg1 2 = U _ := (fr1 2 rfl).trans rfl
  refine CW.seq ?_
  refine CW.seq ?_
  refine CW.region ?_
  refine RL.val rfl (run_move e5_1) ?_
  refine RL.val rfl (run_lss rfl rfl) ?_
  refine RL.nil ?_
  refine CW.condP rfl (fun h3 => ?_) (fun h3 => ?_)
  · refine CW.skip ?_
    refine CW.seq ?_
    refine CW.block ?_
    refine CW.seq ?_
    refine CW.seq ?_
    refine CW.region ?_
    refine RL.val rfl (run_assign (v := I 0) rfl) ?_
    refine RL.nil ?_
    refine CW.block ?_
    refine CW.loop (G := (Int)) (fun (k : Int) s' w' => (Fr [3, 6, 11, 12, 13, 14, 15, 16, 17, 18, 19, 20, 21, 22, 23, 24, 25] _ s') ∧ (Hp w w' _) ∧ (s' 3 = U (oflTo l i.toNat)) ∧ (s' 6 = I k) ∧ (0 ≤ k) ∧ (k ≤ l.length) ∧ (∀ j : Int, 0 ≤ j → j < k → l.getD j.toNat 0 ≠ i)) (fun (k : Int) => (l.length - k).toNat) (0) ⟨Fr.refl _ _, hH1, e3_1, rfl, (by omega), (by omega), fun j a b => absurd b (by omega)⟩ ?_
    rintro k sg4 w4 ⟨fr4, hH4, e3_4, e6_4, k0, k1, hf⟩
    have e0_4 := (fr4 0 rfl).trans e0_1
    have e2_4 := (fr4 2 rfl).trans e2_1
    have e4_4 := (fr4 4 rfl).trans e4_1
    have e5_4 := (fr4 5 rfl).trans e5_1
    have e7_4 : sg4 7 = I _ := (fr4 7 rfl).trans rfl
    have e8_4 : sg4 8 = B _ := (fr4 8 rfl).trans rfl
    refine CW.seq ?_
    refine CW.seq ?_
    refine CW.region ?_
    refine RL.val rfl (run_move e6_4) ?_
    refine RL.val rfl (run_move e0_4) ?_
    refine RL.val rfl (run_lenSl (hs.hp hH4) rfl Tryz.underlying72 rfl) ?_
    refine RL.val rfl (run_lss rfl rfl) ?_
    refine RL.nil ?_
    refine CW.condP rfl (fun h6 => ?_) (fun h6 => ?_)
    · refine CW.skip ?_
      refine CW.seq ?_
      refine CW.block ?_
      refine CW.seq ?_
      refine CW.region ?_
      refine RL.val rfl (run_move e0_4) ?_
      refine RL.val rfl (run_move e6_4) ?_
      refine RL.val rfl (run_indexAddrS (hs.hp hH4) Tryz.underlying72 Tryz.sizeOf3 rfl rfl (by omega)) ?_
      refine RL.val rfl (run_ld Tryz.underlying3 rfl rfl ((hs.hp hH4).cell _ _ (map_at (by omega)))) ?_
      refine RL.val rfl (run_move e5_4) ?_
      refine RL.val rfl (run_eql rfl rfl) ?_
      refine RL.nil ?_
      refine CW.condP rfl (fun h8 => ?_) (fun h8 => ?_)
      · refine CW.seq ?_
        refine CW.region ?_
        refine RL.val rfl (run_move e3_4) ?_
        refine RL.val rfl (run_move e4_4) ?_
        refine RL.val rfl (run_addU rfl rfl) ?_
        refine RL.val rfl (run_assign (v := U _) rfl) ?_
        refine RL.nil ?_
        refine CW.exit (id := 2) rfl ?_
        refine CW.region ?_
        refine RL.val rfl (run_move e4_4) ?_
        refine RL.val rfl (run_mulU rfl (b := 2#64) rfl) ?_
        refine RL.val rfl (run_assign (v := U _) rfl) ?_
        refine RL.nil ?_
        refine CW.region ?_
        refine RL.val rfl (run_move e5_4) ?_
        refine RL.val rfl (run_add rfl rfl (by omega)) ?_
        refine RL.val rfl (run_assign (v := I _) rfl) ?_
        refine RL.nil ?_
        refine ⟨i + 1, ?_, ((((((((((((((((((((((((fr1.u rfl).u rfl).u rfl).t fr4 rfl)).u rfl).u rfl).u rfl).u rfl).u rfl).u rfl).u rfl).u rfl).u rfl).u rfl).u rfl).u rfl).u rfl).u rfl).u rfl).u rfl).u rfl).u rfl).u rfl).u rfl, hH4, (congrArg U (oflTo_yesI i0 (by omega) k0 (by omega) ‹_›)), (congrArg U (by rw [shl_two, show (i + 1).toNat = i.toNat + 1 by omega])), (congrArg I (by first | rfl | omega)), ?_, ?_⟩
        · ((try dsimp only); omega)
        · omega
        · omega
      · refine CW.skip ?_
        refine CW.region ?_
        refine RL.val rfl (run_move e6_4) ?_
        refine RL.val rfl (run_add rfl rfl (by omega)) ?_
        refine RL.val rfl (run_assign (v := I _) rfl) ?_
        refine RL.nil ?_
        refine ⟨k + 1, ?_, ((((((((((((fr4.u rfl).u rfl).u rfl).u rfl).u rfl).u rfl).u rfl).u rfl).u rfl).u rfl).u rfl).u rfl).u rfl, hH4, e3_4, (congrArg I (by first | rfl | omega)), ?_, ?_, ?_⟩
        · ((try dsimp only); omega)
        · omega
        · omega
        · exact fun j a b => if e : j = k then e ▸ ‹¬ l.getD k.toNat 0 = i› else hf j a (by omega)
    · refine CW.exit (id := 2) rfl ?_
      refine CW.region ?_
      refine RL.val rfl (run_move e4_4) ?_
      refine RL.val rfl (run_mulU rfl (b := 2#64) rfl) ?_
      refine RL.val rfl (run_assign (v := U _) rfl) ?_
      refine RL.nil ?_
      refine CW.region ?_
      refine RL.val rfl (run_move e5_4) ?_
      refine RL.val rfl (run_add rfl rfl (by omega)) ?_
      refine RL.val rfl (run_assign (v := I _) rfl) ?_
      refine RL.nil ?_
      refine ⟨i + 1, ?_, ((((((((((((((fr1.u rfl).u rfl).u rfl).t fr4 rfl)).u rfl).u rfl).u rfl).u rfl).u rfl).u rfl).u rfl).u rfl).u rfl).u rfl, hH4, (Eq.trans e3_4 (congrArg U (oflTo_noI i0 (fun j a b => hf j a (by omega))))), (congrArg U (by rw [shl_two, show (i + 1).toNat = i.toNat + 1 by omega])), (congrArg I (by first | rfl | omega)), ?_, ?_⟩
      · ((try dsimp only); omega)
      · omega
      · omega
  · refine CW.exit (id := 0) rfl ?_
    refine CW.seq ?_
    refine CW.region ?_
    refine RL.val rfl (run_move e3_1) ?_
    refine RL.val rfl (run_assign (v := U _) rfl) ?_
    refine RL.nil ?_
    refine CW.ret ?_
    refine outP1 Tryz.results62 (congrArg U ?_) hH1.below
    (rw [show i.toNat = 64 by omega]; rfl)

theorem c_clearanceref01_List (s : BitVec 64) (w : World) : Calls Tryz.prog 77 #[U s] w (PureRow 3 1 (lst s).length ((lst s).map I) w) := by
  refine enter Tryz.func77 rfl Tryz.ntmps77 rfl ?_
  have hH := Hp.start w
  refine CW.seq ?_
  refine CW.region ?_
  refine RL.val rfl (run_assign (v := .slice none 0 0) rfl) ?_
  have hH1 := hH.nilRow 3 1
  refine RL.nil ?_
  refine CW.seq ?_
  refine CW.region ?_
  refine RL.val rfl (run_assign (v := .slice none 0 0) rfl) ?_
  have hH2 := hH1.nilRow 3 1
  refine RL.nil ?_
  refine CW.seq ?_
  refine CW.seq ?_
  refine CW.region ?_
  refine RL.val rfl (run_assign (v := I 0) rfl) ?_
  refine RL.nil ?_
  refine CW.block ?_
  refine CW.loop (G := (Int) × (List Int) × (Value)) (fun (⟨k, l, v3⟩ : (Int) × (List Int) × (Value)) s' w' => (Fr [0, 3, 4, 5, 6, 7, 8, 9, 10, 11, 12, 13, 14, 15, 16, 17] _ s') ∧ (Hp w w' (.row v3 3 1 (l.length) (l.map I) :: _)) ∧ (s' 0 = U (s >>> k.toNat)) ∧ (s' 3 = v3) ∧ (s' 4 = I k) ∧ (0 ≤ k) ∧ (k ≤ 64) ∧ (l = lstTo s k.toNat)) (fun (⟨k, l, v3⟩ : (Int) × (List Int) × (Value)) => (64 - k).toNat) ((0, [], (.slice none 0 0 : Value))) ⟨Fr.refl _ _, hH2, (congrArg U (by simp)), rfl, rfl, (by omega), (by omega), rfl⟩ ?_
  rintro ⟨k, l, v3⟩ sg3 w3 ⟨fr3, hH3, e0_3, e3_3, e4_3, h0, hk, hl⟩
  have e2_3 := (fr3 2 rfl).trans (by conv => lhs; whnf)
  refine CW.seq ?_
  refine CW.seq ?_
  refine CW.region ?_
  refine RL.val rfl (run_move e4_3) ?_
  refine RL.val rfl (run_lss rfl rfl) ?_
  refine RL.nil ?_
  refine CW.condP rfl (fun h5 => ?_) (fun h5 => ?_)
  · refine CW.skip ?_
    refine CW.seq ?_
    refine CW.block ?_
    refine CW.seq ?_
    refine CW.seq ?_
    refine CW.region ?_
    refine RL.val rfl (run_move e0_3) ?_
    refine RL.val rfl (run_remU rfl (b := 2#64) rfl (by decide)) ?_
    refine RL.val rfl (run_eqlU rfl (b := 1#64) rfl) ?_
    refine RL.nil ?_
    refine CW.condP rfl (fun h7 => ?_) (fun h7 => ?_)
    · refine CW.region ?_
      refine RL.val rfl (run_move e3_3) ?_
      refine RL.val rfl (run_move e4_3) ?_
      refine RL.new rfl hH3 (f := fun b => (.slice (some ⟨b, 0, none⟩) 1 1)) (run_mkL Tryz.underlying72 rfl rfl (sz := 1) (vs := [I _]) rfl rfl (by decide) (by decide) rfl rfl) ?_
      intro b10 w8 hH9
      (try simp only [List.flatMap_cons, List.flatMap_nil, clI, clB, clS, clP, clL, clA, List.append_nil, List.cons_append, List.nil_append] at hH9)
      refine RL.app rfl hH9 (i := 1) rfl (hH9.slBlk (i := 0) (n := 1) (sz := 1) rfl rfl (by decide)) rfl rfl Tryz.underlying72 rfl rfl (size := 1) (bytes := 8) rfl rfl rfl (by decide) (by simp [Value.oneCell']) (by have := lstTo_len s k.toNat; rw [← hl] at this; omega) (by have := lstTo_len s k.toNat; rw [← hl] at this; simp only [maxLen]; omega) ?_
      intro v11 w12 hH13
      simp only [List.set_cons_zero, List.set_cons_succ] at hH13
      refine RL.val rfl (run_assign (by conv => lhs; whnf)) ?_
      refine RL.nil ?_
      refine CW.region ?_
      refine RL.val rfl (run_move e0_3) ?_
      refine RL.val rfl (run_quoU rfl (b := 2#64) rfl (by decide)) ?_
      refine RL.val rfl (run_assign (v := U _) rfl) ?_
      refine RL.nil ?_
      refine CW.region ?_
      refine RL.val rfl (run_move e4_3) ?_
      refine RL.val rfl (run_add rfl rfl (by omega)) ?_
      refine RL.val rfl (run_assign (v := I _) rfl) ?_
      refine RL.nil ?_
      refine ⟨(k + 1, l ++ [k], v11), ?_, (((((((((((((((fr3.u rfl).u rfl).u rfl).u rfl).u rfl).u rfl).u rfl).u rfl).u rfl).u rfl).u rfl).u rfl).u rfl).u rfl).u rfl).u rfl, (Hp.conv (hH13.sub (.cons _ (List.Sublist.refl _))) (by first | rfl | simp)), (congrArg U (by rw [half, show (k + 1).toNat = k.toNat + 1 by omega])), rfl, (congrArg I (by first | rfl | omega)), ?_, ?_, ?_⟩
      · ((try dsimp only); omega)
      · omega
      · omega
      · rw [hl, lstTo_yes h0 ‹_›]
    · refine CW.skip ?_
      refine CW.region ?_
      refine RL.val rfl (run_move e0_3) ?_
      refine RL.val rfl (run_quoU rfl (b := 2#64) rfl (by decide)) ?_
      refine RL.val rfl (run_assign (v := U _) rfl) ?_
      refine RL.nil ?_
      refine CW.region ?_
      refine RL.val rfl (run_move e4_3) ?_
      refine RL.val rfl (run_add rfl rfl (by omega)) ?_
      refine RL.val rfl (run_assign (v := I _) rfl) ?_
      refine RL.nil ?_
      refine ⟨(k + 1, l, v3), ?_, ((((((((((fr3.u rfl).u rfl).u rfl).u rfl).u rfl).u rfl).u rfl).u rfl).u rfl).u rfl).u rfl, (Hp.conv hH3 (by first | rfl | simp)), (congrArg U (by rw [half, show (k + 1).toNat = k.toNat + 1 by omega])), e3_3, (congrArg I (by first | rfl | omega)), ?_, ?_, ?_⟩
      · ((try dsimp only); omega)
      · omega
      · omega
      · rw [hl, lstTo_no h0 ‹_›]
  · refine CW.exit (id := 0) rfl ?_
    refine CW.seq ?_
    refine CW.region ?_
    refine RL.val rfl (run_move e3_3) ?_
    refine RL.val rfl (run_assign (by conv => lhs; whnf)) ?_
    refine RL.nil ?_
    refine CW.ret ?_
    exact outR Tryz.results77 rfl hH3 (i := 0) rfl (by rw [hl, lstTo_end ‹_› hk]) (by rw [hl, lstTo_end ‹_› hk])

theorem c_clearanceref01_Below (n : Int) (w : World) : Calls Tryz.prog 36 #[I n] w (Pure (U (below n)) w) := by
  refine enter Tryz.func36 rfl Tryz.ntmps36 rfl ?_
  have hH := Hp.start w
  refine CW.seq ?_
  refine CW.region ?_
  refine RL.val rfl (run_assign (v := U 0#64) rfl) ?_
  refine RL.nil ?_
  refine CW.seq ?_
  refine CW.region ?_
  refine RL.val rfl (run_assign (v := .slice none 0 0) rfl) ?_
  have hH1 := hH.nilRow 3 1
  refine RL.nil ?_
  refine CW.seq ?_
  refine CW.seq ?_
  refine CW.region ?_
  refine RL.val rfl (run_assign (v := I 0) rfl) ?_
  refine RL.nil ?_
  refine CW.block ?_
  refine CW.loop (G := (Int) × (List Int) × (Value)) (fun (⟨k, l, v3⟩ : (Int) × (List Int) × (Value)) s' w' => (Fr [3, 4, 5, 6, 7, 8, 9, 10, 11, 12, 13, 14, 15, 16, 17] _ s') ∧ (Hp w w' (.row v3 3 1 (l.length) (l.map I) :: _)) ∧ (s' 3 = v3) ∧ (s' 4 = I k) ∧ (0 ≤ k) ∧ (k ≤ 64) ∧ (k ≤ max n 0) ∧ (l = upto k)) (fun (⟨k, l, v3⟩ : (Int) × (List Int) × (Value)) => (64 - k).toNat) ((0, [], (.slice none 0 0 : Value))) ⟨Fr.refl _ _, hH1, rfl, rfl, (by omega), (by omega), (by omega), rfl⟩ ?_
  rintro ⟨k, l, v3⟩ sg2 w2 ⟨fr2, hH2, e3_2, e4_2, h0, hk, hn, hl⟩
  have e0_2 : sg2 0 = I _ := (fr2 0 rfl).trans rfl
  have e2_2 : sg2 2 = U _ := (fr2 2 rfl).trans rfl
  refine CW.seq ?_
  refine CW.seq ?_
  refine CW.region ?_
  refine RL.val rfl (run_move e4_2) ?_
  refine RL.val rfl (run_move e0_2) ?_
  refine RL.val rfl (run_lss rfl rfl) ?_
  refine RL.val rfl (run_move (v := B _) rfl) ?_
  refine RL.splitP (dj := 8) rfl (fun h4 => ?_) (fun h4 => ?_)
  · refine RL.gT rfl (bT h4) ?_
    refine RL.val rfl (run_move e4_2) ?_
    refine RL.gT rfl (bT h4) ?_
    refine RL.val rfl (run_lss rfl rfl) ?_
    refine RL.val rfl (run_pickT (bT h4) (v := B _) rfl) ?_
    refine RL.nil ?_
    refine CW.condP rfl (fun h6 => ?_) (fun h6 => ?_)
    · refine CW.skip ?_
      refine CW.seq ?_
      refine CW.block ?_
      refine CW.region ?_
      refine RL.val rfl (run_move e3_2) ?_
      refine RL.val rfl (run_move e4_2) ?_
      refine RL.new rfl hH2 (f := fun b => (.slice (some ⟨b, 0, none⟩) 1 1)) (run_mkL Tryz.underlying72 rfl rfl (sz := 1) (vs := [I _]) rfl rfl (by decide) (by decide) rfl rfl) ?_
      intro b9 w7 hH8
      (try simp only [List.flatMap_cons, List.flatMap_nil, clI, clB, clS, clP, clL, clA, List.append_nil, List.cons_append, List.nil_append] at hH8)
      refine RL.app rfl hH8 (i := 1) rfl (hH8.slBlk (i := 0) (n := 1) (sz := 1) rfl rfl (by decide)) rfl rfl Tryz.underlying72 rfl rfl (size := 1) (bytes := 8) rfl rfl rfl (by decide) (by simp [Value.oneCell']) (by have := @upto_len k; rw [← hl] at this; omega) (by have := @upto_len k; rw [← hl] at this; simp only [maxLen]; omega) ?_
      intro v10 w11 hH12
      simp only [List.set_cons_zero, List.set_cons_succ] at hH12
      refine RL.val rfl (run_assign (by conv => lhs; whnf)) ?_
      refine RL.nil ?_
      refine CW.region ?_
      refine RL.val rfl (run_move e4_2) ?_
      refine RL.val rfl (run_add rfl rfl (by omega)) ?_
      refine RL.val rfl (run_assign (v := I _) rfl) ?_
      refine RL.nil ?_
      refine ⟨(k + 1, l ++ [k], v10), ?_, ((((((((((((((fr2.u rfl).u rfl).u rfl).u rfl).u rfl).u rfl).u rfl).u rfl).u rfl).u rfl).u rfl).u rfl).u rfl).u rfl).u rfl, (Hp.conv (hH12.sub (.cons _ (List.Sublist.refl _))) (by first | rfl | simp)), rfl, (congrArg I (by first | rfl | omega)), ?_, ?_, ?_, ?_⟩
      · ((try dsimp only); omega)
      · omega
      · omega
      · omega
      · rw [hl, upto_succ h0]
    · refine CW.exit (id := 0) rfl ?_
      refine CW.seq ?_
      refine CW.region ?_
      refine RL.val rfl (run_move e3_2) ?_
      refine RL.callP rfl hH2 (c_clearanceref01_Of _ _  _ (hH2.sl (i := 0) rfl)) (run_call1 Tryz.call62 rfl) ?_
      intro w13 hH14
      refine RL.val rfl (run_assign (v := U _) rfl) ?_
      refine RL.nil ?_
      refine CW.ret ?_
      refine outP1 Tryz.results36 (congrArg U ?_) hH14.below
      exact below_eq_ofl fun i a b => by rw [hl, mem_upto]; omega
  · refine RL.gF rfl rfl (bF h4) rfl ?_
    refine RL.gF rfl rfl (bF h4) rfl ?_
    refine RL.val rfl (run_pickF (bF h4) (v := B false) rfl) ?_
    refine RL.nil ?_
    refine CW.condF rfl ?_
    refine CW.exit (id := 0) rfl ?_
    refine CW.seq ?_
    refine CW.region ?_
    refine RL.val rfl (run_move e3_2) ?_
    refine RL.callP rfl hH2 (c_clearanceref01_Of _ _  _ (hH2.sl (i := 0) rfl)) (run_call1 Tryz.call62 rfl) ?_
    intro w15 hH16
    refine RL.val rfl (run_assign (v := U _) rfl) ?_
    refine RL.nil ?_
    refine CW.ret ?_
    refine outP1 Tryz.results36 (congrArg U ?_) hH16.below
    exact below_eq_ofl fun i a b => by rw [hl, mem_upto]; omega

theorem c_rung_Right (n : Int) (s : BitVec 64) (w : World) : Calls Tryz.prog 71 #[I n, U s] w (Pure (B (level n s).2) w) := by
  refine enter Tryz.func71 rfl Tryz.ntmps71 rfl ?_
  have hH := Hp.start w
  refine CW.seq ?_
  refine CW.region ?_
  refine RL.val rfl (run_assign (v := B false) rfl) ?_
  refine RL.nil ?_
  refine CW.seq ?_
  refine CW.region ?_
  refine RL.val rfl (run_move (v := I _) rfl) ?_
  refine RL.val rfl (run_move (v := U _) rfl) ?_
  refine RL.callP rfl hH (c_rung_Level _ _  _) (run_call2 Tryz.call104 rfl rfl) ?_
  intro w1 hH2
  refine RL.val rfl (run_move (by conv => lhs; whnf)) ?_
  refine RL.val rfl (run_extract rfl (v := I _) rfl) ?_
  refine RL.val rfl (run_extract rfl (v := B _) rfl) ?_
  refine RL.val rfl (run_assign (v := I _) rfl) ?_
  refine RL.val rfl (run_assign (v := B _) rfl) ?_
  refine RL.nil ?_
  refine CW.seq ?_
  refine CW.region ?_
  refine RL.val rfl (run_move (v := B _) rfl) ?_
  refine RL.val rfl (run_assign (v := B _) rfl) ?_
  refine RL.nil ?_
  refine CW.ret ?_
  refine outP1 Tryz.results71 (congrArg B ?_) hH2.below
  rfl

theorem c_rung_Top (n : Int) (w : World) : Calls Tryz.prog 63 #[I n] w (Pure (U (topv n)) w) := by
  refine enter Tryz.func63 rfl Tryz.ntmps63 rfl ?_
  have hH := Hp.start w
  refine CW.seq ?_
  refine CW.region ?_
  refine RL.val rfl (run_assign (v := U 0#64) rfl) ?_
  refine RL.nil ?_
  refine CW.seq ?_
  refine CW.region ?_
  refine RL.val rfl (run_move (v := I _) rfl) ?_
  refine RL.val rfl (run_move (v := I _) rfl) ?_
  refine RL.val rfl (run_subW rfl rfl) ?_
  refine RL.callP rfl hH (c_rung_Word _ _  _) (run_call2 Tryz.call96 rfl rfl) ?_
  intro w1 hH2
  refine RL.val rfl (run_move (by conv => lhs; whnf)) ?_
  refine RL.val rfl (run_extract rfl (v := U _) rfl) ?_
  refine RL.val rfl (run_extract rfl (v := B _) rfl) ?_
  refine RL.val rfl (run_assign (v := U _) rfl) ?_
  refine RL.val rfl (run_assign (v := B _) rfl) ?_
  refine RL.nil ?_
  refine CW.seq ?_
  refine CW.region ?_
  refine RL.val rfl (run_move (v := U _) rfl) ?_
  refine RL.val rfl (run_assign (v := U _) rfl) ?_
  refine RL.nil ?_
  refine CW.ret ?_
  refine outP1 Tryz.results63 (congrArg U ?_) hH2.below
  by_cases hn : 1 ≤ n ∧ n ≤ 64
  · rw [topv, if_pos hn, wrap_id (by omega), wordv_yes (by omega)]
  · rw [topv, if_neg hn, wordv_no (by omega)]

theorem c_clearanceref04_Word (n k : Int) (w : World) : Calls Tryz.prog 107 #[I n, I k] w (Pure (.tuple #[U (wordv n k).1, B (wordv n k).2]) w) := by
  refine enter Tryz.func107 rfl Tryz.ntmps107 rfl ?_
  have hH := Hp.start w
  refine CW.seq ?_
  refine CW.region ?_
  refine RL.val rfl (run_assign (v := U 0#64) rfl) ?_
  refine RL.val rfl (run_assign (v := B false) rfl) ?_
  refine RL.nil ?_
  refine CW.seq ?_
  refine CW.seq ?_
  refine CW.region ?_
  refine RL.val rfl (run_move (v := I _) rfl) ?_
  refine RL.val rfl (run_lss rfl rfl) ?_
  refine RL.val rfl (run_move (v := B _) rfl) ?_
  refine RL.splitP (dj := 8) rfl (fun h2 => ?_) (fun h2 => ?_)
  · refine RL.gF rfl rfl (bT h2) rfl ?_
    refine RL.gF rfl rfl (bT h2) rfl ?_
    refine RL.val rfl (run_pickT (bT h2) (v := B true) rfl) ?_
    refine RL.val rfl (run_move (v := B _) rfl) ?_
    refine RL.gF rfl rfl rfl rfl ?_
    refine RL.gF rfl rfl rfl rfl ?_
    refine RL.val rfl (run_pickT rfl (v := B true) rfl) ?_
    refine RL.val rfl (run_move (v := B _) rfl) ?_
    refine RL.gF rfl rfl rfl rfl ?_
    refine RL.gF rfl rfl rfl rfl ?_
    refine RL.gF rfl rfl rfl rfl ?_
    refine RL.val rfl (run_pickT rfl (v := B true) rfl) ?_
    refine RL.nil ?_
    refine CW.condT rfl ?_
    refine CW.seq ?_
    refine CW.region ?_
    refine RL.val rfl (run_assign (v := U 0#64) rfl) ?_
    refine RL.val rfl (run_assign (v := B false) rfl) ?_
    refine RL.nil ?_
    refine CW.ret ?_
    refine outP2 Tryz.results107 (congrArg U ?_) (congrArg B ?_) hH.below <;> rw [wordv_no (by omega)]
  · refine RL.gT rfl (bF h2) ?_
    refine RL.val rfl (run_move (v := I _) rfl) ?_
    refine RL.gT rfl (bF h2) ?_
    refine RL.val rfl (run_gtr rfl rfl) ?_
    refine RL.val rfl (run_pickF (bF h2) (v := B _) rfl) ?_
    refine RL.val rfl (run_move (v := B _) rfl) ?_
    refine RL.splitP (dj := 12) rfl (fun h4 => ?_) (fun h4 => ?_)
    · refine RL.gF rfl rfl (bT h4) rfl ?_
      refine RL.gF rfl rfl (bT h4) rfl ?_
      refine RL.val rfl (run_pickT (bT h4) (v := B true) rfl) ?_
      refine RL.val rfl (run_move (v := B _) rfl) ?_
      refine RL.gF rfl rfl rfl rfl ?_
      refine RL.gF rfl rfl rfl rfl ?_
      refine RL.gF rfl rfl rfl rfl ?_
      refine RL.val rfl (run_pickT rfl (v := B true) rfl) ?_
      refine RL.nil ?_
      refine CW.condT rfl ?_
      refine CW.seq ?_
      refine CW.region ?_
      refine RL.val rfl (run_assign (v := U 0#64) rfl) ?_
      refine RL.val rfl (run_assign (v := B false) rfl) ?_
      refine RL.nil ?_
      refine CW.ret ?_
      refine outP2 Tryz.results107 (congrArg U ?_) (congrArg B ?_) hH.below <;> rw [wordv_no (by omega)]
    · refine RL.gT rfl (bF h4) ?_
      refine RL.val rfl (run_move (v := I _) rfl) ?_
      refine RL.gT rfl (bF h4) ?_
      refine RL.val rfl (run_lss rfl rfl) ?_
      refine RL.val rfl (run_pickF (bF h4) (v := B _) rfl) ?_
      refine RL.val rfl (run_move (v := B _) rfl) ?_
      refine RL.splitP (dj := 16) rfl (fun h6 => ?_) (fun h6 => ?_)
      · refine RL.gF rfl rfl (bT h6) rfl ?_
        refine RL.gF rfl rfl (bT h6) rfl ?_
        refine RL.gF rfl rfl (bT h6) rfl ?_
        refine RL.val rfl (run_pickT (bT h6) (v := B true) rfl) ?_
        refine RL.nil ?_
        refine CW.condT rfl ?_
        refine CW.seq ?_
        refine CW.region ?_
        refine RL.val rfl (run_assign (v := U 0#64) rfl) ?_
        refine RL.val rfl (run_assign (v := B false) rfl) ?_
        refine RL.nil ?_
        refine CW.ret ?_
        refine outP2 Tryz.results107 (congrArg U ?_) (congrArg B ?_) hH.below <;> rw [wordv_no (by omega)]
      · refine RL.gT rfl (bF h6) ?_
        refine RL.val rfl (run_move (v := I _) rfl) ?_
        refine RL.gT rfl (bF h6) ?_
        refine RL.val rfl (run_move (v := I _) rfl) ?_
        refine RL.gT rfl (bF h6) ?_
        refine RL.val rfl (run_geq rfl rfl) ?_
        refine RL.val rfl (run_pickF (bF h6) (v := B _) rfl) ?_
        refine RL.nil ?_
        refine CW.condP rfl (fun h8 => ?_) (fun h8 => ?_)
        · refine CW.seq ?_
          refine CW.region ?_
          refine RL.val rfl (run_assign (v := U 0#64) rfl) ?_
          refine RL.val rfl (run_assign (v := B false) rfl) ?_
          refine RL.nil ?_
          refine CW.ret ?_
          refine outP2 Tryz.results107 (congrArg U ?_) (congrArg B ?_) hH.below <;> rw [wordv_no (by omega)]
        · refine CW.skip ?_
          refine CW.seq ?_
          refine CW.region ?_
          refine RL.val rfl (run_move (v := I _) rfl) ?_
          refine RL.callP rfl hH (c_clearanceref01_Below _  _) (run_call1 Tryz.call36 rfl) ?_
          intro w9 hH10
          refine RL.val rfl (run_assign (v := U _) rfl) ?_
          refine RL.val rfl (run_assign (v := B true) rfl) ?_
          refine RL.nil ?_
          refine CW.ret ?_
          refine outP2 Tryz.results107 (congrArg U ?_) (congrArg B ?_) hH10.below <;> rw [wordv_yes (by omega)]

theorem c_clearanceref04_Level (n : Int) (s : BitVec 64) (w : World) : Calls Tryz.prog 74 #[I n, U s] w (Pure (.tuple #[I (level n s).1, B (level n s).2]) w) := by
  refine enter Tryz.func74 rfl Tryz.ntmps74 rfl ?_
  have hH := Hp.start w
  refine CW.seq ?_
  refine CW.region ?_
  refine RL.val rfl (run_assign (v := I 0) rfl) ?_
  refine RL.val rfl (run_assign (v := B false) rfl) ?_
  refine RL.nil ?_
  refine CW.seq ?_
  refine CW.seq ?_
  refine CW.region ?_
  refine RL.val rfl (run_assign (v := I 0) rfl) ?_
  refine RL.nil ?_
  refine CW.block ?_
  refine CW.loop (G := (Int)) (fun (k : Int) s' w' => (Fr [4, 5, 6, 7, 8, 9, 10, 11, 12, 13, 14, 15, 16, 17, 18, 19, 20, 21, 22, 23, 24, 25, 26, 27, 28, 29, 30] _ s') ∧ (Hp w w' _) ∧ (s' 6 = I k) ∧ (0 ≤ k) ∧ (k ≤ n ∨ k = 0) ∧ (k ≤ 64) ∧ (n ≤ 64 → ∀ j : Int, 0 ≤ j → j < k → s ≠ below j)) (fun (k : Int) => (64 - k).toNat) (0) ⟨Fr.refl _ _, hH, rfl, (by omega), (by omega), (by omega), fun _ j a b => absurd b (by omega)⟩ ?_
  rintro k sg1 w1 ⟨fr1, hH1, e6_1, h0, hk, h6, hf⟩
  have e0_1 : sg1 0 = I _ := (fr1 0 rfl).trans rfl
  have e1_1 : sg1 1 = U _ := (fr1 1 rfl).trans rfl
  refine CW.seq ?_
  refine CW.seq ?_
  refine CW.region ?_
  refine RL.val rfl (run_move e6_1) ?_
  refine RL.val rfl (run_move e0_1) ?_
  refine RL.val rfl (run_lss rfl rfl) ?_
  refine RL.val rfl (run_move (v := B _) rfl) ?_
  refine RL.splitP (dj := 12) rfl (fun h3 => ?_) (fun h3 => ?_)
  · refine RL.gT rfl (bT h3) ?_
    refine RL.val rfl (run_move e6_1) ?_
    refine RL.gT rfl (bT h3) ?_
    refine RL.val rfl (run_lss rfl rfl) ?_
    refine RL.val rfl (run_pickT (bT h3) (v := B _) rfl) ?_
    refine RL.nil ?_
    refine CW.condP rfl (fun h5 => ?_) (fun h5 => ?_)
    · refine CW.skip ?_
      refine CW.seq ?_
      refine CW.block ?_
      refine CW.seq ?_
      refine CW.region ?_
      refine RL.val rfl (run_move e0_1) ?_
      refine RL.val rfl (run_move e6_1) ?_
      refine RL.callP rfl hH1 (c_clearanceref04_Word _ _  _) (run_call2 Tryz.call107 rfl rfl) ?_
      intro w6 hH7
      refine RL.val rfl (run_move (by conv => lhs; whnf)) ?_
      refine RL.val rfl (run_extract rfl (v := U _) rfl) ?_
      refine RL.val rfl (run_extract rfl (v := B _) rfl) ?_
      refine RL.val rfl (run_assign (v := U _) rfl) ?_
      refine RL.val rfl (run_assign (v := B _) rfl) ?_
      refine RL.nil ?_
      refine CW.seq ?_
      refine CW.region ?_
      refine RL.val rfl (run_move (v := B _) rfl) ?_
      refine RL.val rfl (run_move (v := B _) rfl) ?_
      refine RL.split (dj := 25) rfl (fun h9 => ?_) (fun h9 => ?_)
      · refine RL.gT rfl (bR (c := true) h9) ?_
        refine RL.val rfl (run_move (v := U _) rfl) ?_
        refine RL.gT rfl (bR (c := true) h9) ?_
        refine RL.val rfl (run_move e1_1) ?_
        refine RL.gT rfl (bR (c := true) h9) ?_
        refine RL.val rfl (run_eqlU rfl rfl) ?_
        refine RL.val rfl (run_pickT (bR (c := true) h9) (v := B _) rfl) ?_
        refine RL.nil ?_
        refine CW.condP rfl (fun h11 => ?_) (fun h11 => ?_)
        · refine CW.seq ?_
          refine CW.region ?_
          refine RL.val rfl (run_move e6_1) ?_
          refine RL.val rfl (run_assign (v := I _) rfl) ?_
          refine RL.val rfl (run_assign (v := B true) rfl) ?_
          refine RL.nil ?_
          refine CW.ret ?_
          refine outP2 Tryz.results74 (congrArg I ?_) (congrArg B ?_) hH7.below <;> rw [level_ref h0 ‹_› hf ‹_›]
        · refine CW.skip ?_
          refine CW.region ?_
          refine RL.val rfl (run_move e6_1) ?_
          refine RL.val rfl (run_add rfl rfl (by omega)) ?_
          refine RL.val rfl (run_assign (v := I _) rfl) ?_
          refine RL.nil ?_
          refine ⟨k + 1, ?_, (((((((((((((((((((((((fr1.u rfl).u rfl).u rfl).u rfl).u rfl).u rfl).u rfl).u rfl).u rfl).u rfl).u rfl).u rfl).u rfl).u rfl).u rfl).u rfl).u rfl).u rfl).u rfl).u rfl).u rfl).u rfl).u rfl).u rfl, hH7, (congrArg I (by first | rfl | omega)), ?_, ?_, ?_, ?_⟩
          · ((try dsimp only); omega)
          · omega
          · omega
          · omega
          · exact level_step1 h0 ‹_› ‹_› hf
      · refine RL.gF rfl rfl (bR (c := false) h9) rfl ?_
        refine RL.gF rfl rfl (bR (c := false) h9) rfl ?_
        refine RL.gF rfl rfl (bR (c := false) h9) rfl ?_
        refine RL.val rfl (run_pickF (bR (c := false) h9) (v := B false) rfl) ?_
        refine RL.nil ?_
        refine CW.condF rfl ?_
        refine CW.skip ?_
        refine CW.region ?_
        refine RL.val rfl (run_move e6_1) ?_
        refine RL.val rfl (run_add rfl rfl (by omega)) ?_
        refine RL.val rfl (run_assign (v := I _) rfl) ?_
        refine RL.nil ?_
        refine ⟨k + 1, ?_, (((((((((((((((((((((((fr1.u rfl).u rfl).u rfl).u rfl).u rfl).u rfl).u rfl).u rfl).u rfl).u rfl).u rfl).u rfl).u rfl).u rfl).u rfl).u rfl).u rfl).u rfl).u rfl).u rfl).u rfl).u rfl).u rfl).u rfl, hH7, (congrArg I (by first | rfl | omega)), ?_, ?_, ?_, ?_⟩
        · ((try dsimp only); omega)
        · omega
        · omega
        · omega
        · exact level_step2 h0 ‹_› hf ‹_›
    · refine CW.exit (id := 0) rfl ?_
      refine CW.seq ?_
      refine CW.region ?_
      refine RL.val rfl (run_assign (v := I 0) rfl) ?_
      refine RL.val rfl (run_assign (v := B false) rfl) ?_
      refine RL.nil ?_
      refine CW.ret ?_
      refine outP2 Tryz.results74 (congrArg I ?_) (congrArg B ?_) hH1.below <;> rw [level_refnone h0 hk h6 hf (by omega)]
  · refine RL.gF rfl rfl (bF h3) rfl ?_
    refine RL.gF rfl rfl (bF h3) rfl ?_
    refine RL.val rfl (run_pickF (bF h3) (v := B false) rfl) ?_
    refine RL.nil ?_
    refine CW.condF rfl ?_
    refine CW.exit (id := 0) rfl ?_
    refine CW.seq ?_
    refine CW.region ?_
    refine RL.val rfl (run_assign (v := I 0) rfl) ?_
    refine RL.val rfl (run_assign (v := B false) rfl) ?_
    refine RL.nil ?_
    refine CW.ret ?_
    refine outP2 Tryz.results74 (congrArg I ?_) (congrArg B ?_) hH1.below <;> rw [level_refnone h0 hk h6 hf (by omega)]

theorem c_bits_TrailingZeros64 (s : BitVec 64) (w : World) (hT : Tab w) : Calls Tryz.prog 133 #[U s] w (Pure (I (tz s)) w) := by
  refine enter Tryz.func133 rfl Tryz.ntmps133 rfl ?_
  have hH := Hp.start w
  refine CW.seq ?_
  refine CW.region ?_
  refine RL.val rfl (run_assign (v := I 0) rfl) ?_
  refine RL.nil ?_
  refine CW.seq ?_
  refine CW.seq ?_
  refine CW.region ?_
  refine RL.val rfl (run_move (v := U _) rfl) ?_
  refine RL.val rfl (run_eqlU rfl (b := 0#64) rfl) ?_
  refine RL.nil ?_
  refine CW.condP rfl (fun h2 => ?_) (fun h2 => ?_)
  · refine CW.seq ?_
    refine CW.region ?_
    refine RL.val rfl (run_assign (v := I 64) rfl) ?_
    refine RL.nil ?_
    refine CW.ret ?_
    refine outP1 Tryz.results133 (congrArg I ?_) hH.below
    rw [‹s = 0#64›]; rfl
  · refine CW.skip ?_
    refine CW.seq ?_
    refine CW.region ?_
    refine RL.val rfl (run_move (v := U _) rfl) ?_
    refine RL.val rfl (run_move (v := U _) rfl) ?_
    refine RL.val rfl (run_negU rfl) ?_
    refine RL.val rfl (run_andU rfl rfl) ?_
    refine RL.val rfl (run_mulU rfl (b := 285870213051353865#64) rfl) ?_
    refine RL.val rfl (run_shrU rfl (b := 58#64) rfl) ?_
    refine RL.val rfl (run_indexAddrA Tryz.underlying104 Tryz.sizeOf5 rfl rfl (by exact tz_idx _)) ?_
    refine RL.val rfl (run_ld Tryz.underlying5 rfl rfl (hT.at _)) ?_
    refine RL.val rfl (run_convUI Tryz.underlying5 Tryz.underlying3 rfl (conv_bd (tztab_bd _))) ?_
    refine RL.val rfl (run_assign (v := I _) rfl) ?_
    refine RL.nil ?_
    refine CW.ret ?_
    refine outP1 Tryz.results133 (congrArg I ?_) hH.below
    exact tz_ne ‹_›

theorem c_mask_Least (s : BitVec 64) (w : World) (hT : Tab w) : Calls Tryz.prog 122 #[U s] w (Pure (.tuple #[I (leastv s).1, B (leastv s).2]) w) := by
  refine enter Tryz.func122 rfl Tryz.ntmps122 rfl ?_
  have hH := Hp.start w
  refine CW.seq ?_
  refine CW.region ?_
  refine RL.val rfl (run_assign (v := I 0) rfl) ?_
  refine RL.val rfl (run_assign (v := B false) rfl) ?_
  refine RL.nil ?_
  refine CW.seq ?_
  refine CW.seq ?_
  refine CW.region ?_
  refine RL.val rfl (run_move (v := U _) rfl) ?_
  refine RL.val rfl (run_eqlU rfl (b := 0#64) rfl) ?_
  refine RL.nil ?_
  refine CW.condP rfl (fun h2 => ?_) (fun h2 => ?_)
  · refine CW.seq ?_
    refine CW.region ?_
    refine RL.val rfl (run_assign (v := I 0) rfl) ?_
    refine RL.val rfl (run_assign (v := B false) rfl) ?_
    refine RL.nil ?_
    refine CW.ret ?_
    refine outP2 Tryz.results122 (congrArg I ?_) (congrArg B ?_) hH.below <;> rw [leastv, if_pos ‹_›]
  · refine CW.skip ?_
    refine CW.seq ?_
    refine CW.region ?_
    refine RL.val rfl (run_move (v := U _) rfl) ?_
    refine RL.callP rfl hH (c_bits_TrailingZeros64 _  _ (hT.hp hH)) (run_call1 Tryz.call133 rfl) ?_
    intro w3 hH4
    refine RL.val rfl (run_assign (v := I _) rfl) ?_
    refine RL.val rfl (run_assign (v := B true) rfl) ?_
    refine RL.nil ?_
    refine CW.ret ?_
    refine outP2 Tryz.results122 (congrArg I ?_) (congrArg B ?_) hH4.below <;> rw [leastv, if_neg ‹_›]

theorem c_mask_Each (f : FuncId) (cap : Array Value) (Inv Stop : List Int → World → Prop) (s : BitVec 64) (w : World) (hf : ∀ args w, (callFunc f args).run Tryz.prog w = .ok (.enter f args) w) (hm : ∀ l w w', Inv l w → Below w.heap.size w w' → Inv l w') (hT : ∀ l w, Inv l w → Tab w) (go : ∀ l i r w, lst s = l ++ i :: r → Inv l w → Calls Tryz.prog f (#[I i] ++ cap) w (Ret fun u w' => ∃ c : Bool, u = B c ∧ (c = true → Inv (l ++ [i]) w') ∧ (c = false → Stop (l ++ [i]) w'))) (h0 : Inv [] w) : Calls Tryz.prog 123 #[U s, .func (.func f) #[] cap] w (Ret fun u w' => u = .tuple #[] ∧ (Inv (lst s) w' ∨ ∃ l i r, lst s = l ++ i :: r ∧ Stop (l ++ [i]) w')) := by
  refine enter Tryz.func123 rfl Tryz.ntmps123 rfl ?_
  have hH := Hp.start w
  refine CW.block ?_
  refine CW.loop (G := (BitVec 64) × (List Int)) (fun (⟨s1, l⟩ : (BitVec 64) × (List Int)) s' w' => (Fr [0, 4, 5, 6, 7, 8, 9, 10, 11, 12, 13, 14] _ s') ∧ (Inv l w') ∧ (s' 0 = U s1) ∧ (lst s = l ++ lst s1)) (fun (⟨s1, l⟩ : (BitVec 64) × (List Int)) => (lst s1).length) ((s, [])) ⟨Fr.refl _ _, h0, rfl, (by simp)⟩ ?_
  rintro ⟨s1, l⟩ sg1 w1 ⟨fr1, hH1, e0_1, hl⟩
  have hI1 := hH1
  clear hH1
  have hH1 := Hp.start w1
  have e1_1 : sg1 1 = .func _ _ _ := (fr1 1 rfl).trans rfl
  refine CW.seq ?_
  refine CW.seq ?_
  refine CW.region ?_
  refine RL.val rfl (run_move e0_1) ?_
  refine RL.val rfl (run_neqU rfl (b := 0#64) rfl) ?_
  refine RL.nil ?_
  refine CW.condP rfl (fun h3 => ?_) (fun h3 => ?_)
  · refine CW.skip ?_
    refine CW.block ?_
    refine CW.seq ?_
    refine CW.seq ?_
    refine CW.region ?_
    refine RL.val rfl (run_move e1_1) ?_
    refine RL.val rfl (run_move e0_1) ?_
    refine RL.callP rfl hH1 (c_bits_TrailingZeros64 _ _ (hT _ _ hI1)) (run_call1 Tryz.call133 rfl) ?_
    intro w4 hH5
    have hI := hm _ _ _ hI1 hH5.below
    refine RL.call rfl (run_callV1 hf rfl (v1 := I (tz s1)) rfl) (go l (tz s1) (lst (s1 &&& (s1 - 1#64))) _ (by rw [hl, lst_tz ‹_›]) hI) ?_
    rintro u8 w6 ⟨c, rfl, hJ1, hJ2⟩
    have hH7 := Hp.start w6
    refine RL.val rfl (run_not rfl) ?_
    refine RL.nil ?_
    refine CW.cond rfl (fun h11 => ?_) (fun h11 => ?_)
    · refine CW.ret ?_
      exact out0 Tryz.results123 ⟨rfl, .inr ⟨l, tz s1, lst (s1 &&& (s1 - 1#64)), by rw [hl, lst_tz ‹_›], hJ2 (by simpa using ‹(!c) = true›)⟩⟩
    · refine CW.skip ?_
      refine CW.region ?_
      refine RL.val rfl (run_move e0_1) ?_
      refine RL.val rfl (run_move e0_1) ?_
      refine RL.val rfl (run_subU rfl (b := 1#64) rfl) ?_
      refine RL.val rfl (run_andU rfl rfl) ?_
      refine RL.val rfl (run_assign (v := U _) rfl) ?_
      refine RL.nil ?_
      refine ⟨(s1 &&& (s1 - 1#64), l ++ [tz s1]), ?_, (((((((((((fr1.u rfl).u rfl).u rfl).u rfl).u rfl).u rfl).u rfl).u rfl).u rfl).u rfl).u rfl).u rfl, (hJ1 (by simpa using ‹(!c) = false›)), rfl, ?_⟩
      · exact lst_clear_lt ‹_›
      · rw [hl, lst_tz ‹_›]; simp
  · refine CW.exit (id := 0) rfl ?_
    have hn : lst s1 = [] := lst_eq_nil.2 (by simpa using ‹¬ s1 ≠ 0#64›)
    exact out0 Tryz.results123 ⟨rfl, .inl (by rw [hl, hn, List.append_nil]; assumption)⟩

theorem c_mask_List_1 (W0 : World) (b : Nat) (v : Value) (l : List Int) (i : Int) (w : World) (hH : Hp W0 w [.row v 3 1 l.length (l.map I), .blk b (.cells #[v] 72 (0, 0))]) (hlen : l.length ≤ 64) : Calls Tryz.prog 124 #[I i, .pointer (some ⟨b, 0, none⟩)] w (Ret fun u w' => u = B true ∧ ∃ v', Hp W0 w' [.row v' 3 1 (l ++ [i]).length ((l ++ [i]).map I), .blk b (.cells #[v'] 72 (0, 0))]) := by
  refine enter Tryz.func124 rfl Tryz.ntmps124 rfl ?_
  refine CW.seq ?_
  refine CW.region ?_
  refine RL.val rfl (run_assign (v := B false) rfl) ?_
  refine RL.nil ?_
  refine CW.seq ?_
  refine CW.region ?_
  refine RL.val rfl (run_ld Tryz.underlying72 rfl rfl (hH.cell (i := 1) rfl rfl)) ?_
  refine RL.val rfl (run_move (v := I _) rfl) ?_
  refine RL.new rfl hH (f := fun b => (.slice (some ⟨b, 0, none⟩) 1 1)) (run_mkL Tryz.underlying72 rfl rfl (sz := 1) (vs := [I _]) rfl rfl (by decide) (by decide) rfl rfl) ?_
  intro b3 w1 hH2
  (try simp only [List.flatMap_cons, List.flatMap_nil, clI, clB, clS, clP, clL, clA, List.append_nil, List.cons_append, List.nil_append] at hH2)
  refine RL.app rfl hH2 (i := 1) rfl (hH2.slBlk (i := 0) (n := 1) (sz := 1) rfl rfl (by decide)) rfl rfl Tryz.underlying72 rfl rfl (size := 1) (bytes := 8) rfl rfl rfl (by decide) (by simp [Value.oneCell']) (by omega) (by simp only [maxLen]; omega) ?_
  intro v4 w5 hH6
  simp only [List.set_cons_zero, List.set_cons_succ] at hH6
  refine RL.set hH6 (i := 2) rfl (run_st rfl rfl (by conv => lhs; whnf) (row_cells (hH6.get (i := 1) rfl)).1 (row_cells (hH6.get (i := 1) rfl)).2 (hH6.blk (i := 2) rfl) (by first | decide | simp)) ?_
  intro w7 hH8
  simp only [List.set_cons_zero, List.set_cons_succ] at hH8
  refine RL.nil ?_
  refine CW.seq ?_
  refine CW.region ?_
  refine RL.val rfl (run_assign (v := B true) rfl) ?_
  refine RL.nil ?_
  refine CW.ret ?_
  exact out1 Tryz.results124 rfl ⟨rfl, (v4 : Value), Hp.conv hH8.tail (by simp)⟩

theorem c_mask_List (s : BitVec 64) (w : World) (hT : Tab w) : Calls Tryz.prog 101 #[U s] w (PureRow 3 1 (lst s).length ((lst s).map I) w) := by
  refine enter Tryz.func101 rfl Tryz.ntmps101 rfl ?_
  have hH := Hp.start w
  refine CW.seq ?_
  refine CW.region ?_
  refine RL.val rfl (run_assign (v := .slice none 0 0) rfl) ?_
  refine RL.nil ?_
  refine CW.seq ?_
  refine CW.region ?_
  refine RL.new rfl hH (f := fun b => (.pointer (some ⟨b, 0, none⟩))) (run_alloc Tryz.zeroValue72) ?_
  intro b3 w1 hH2
  have hH4 := hH2.nilRow 3 1
  refine RL.nil ?_
  refine CW.seq ?_
  refine CW.region ?_
  refine RL.val rfl (run_move (v := U _) rfl) ?_
  refine RL.val rfl (run_mkF1 (by conv => lhs; whnf)) ?_
  refine RL.call rfl (run_call2 Tryz.call123 (v1 := U s) rfl (v2 := .func (.func 124) #[] #[.pointer (some ⟨b3, 0, none⟩)]) rfl) (c_mask_Each 124 _ (fun l w' => ∃ v, Hp w w' [.row v 3 1 l.length (l.map I), .blk b3 (.cells #[v] 72 (0, 0))]) (fun _ _ => False) s _ Tryz.call124 (fun l w' w'' h hb => h.imp fun v h => h.call hb) (fun l w' h => h.elim fun v h => hT.hp h) (fun l i r w' he h => h.elim fun v h => by
      have hl64 : l.length ≤ 64 := by have := lst_len s; rw [he] at this; simp at this; omega
      have hc := c_mask_List_1 w b3 v l i w' h hl64
      refine Ret.calls hc ?_
      intro u w2 hq
      exact ⟨true, hq.1, fun _ => hq.2, fun h => by cases h⟩) ⟨.slice none 0 0, hH4⟩) ?_
  rintro u w5 ⟨rfl, hor⟩
  obtain ⟨v7, hH6⟩ := hor.resolve_right (fun ⟨_, _, _, _, h⟩ => h)
  refine RL.nil ?_
  refine CW.seq ?_
  refine CW.region ?_
  refine RL.val rfl (run_ld Tryz.underlying72 rfl rfl (hH6.cell (i := 1) rfl rfl)) ?_
  refine RL.val rfl (run_assign (by conv => lhs; whnf)) ?_
  refine RL.nil ?_
  refine CW.ret ?_
  exact outR Tryz.results101 rfl hH6 (i := 0) rfl (rfl) (rfl)

theorem c_clearanceref01_Sub (a b : BitVec 64) (w : World) : Calls Tryz.prog 44 #[U a, U b] w (Pure (B (subB a b)) w) := by
  have hl := lst_len a
  refine enter Tryz.func44 rfl Tryz.ntmps44 rfl ?_
  have hH := Hp.start w
  refine CW.seq ?_
  refine CW.region ?_
  refine RL.val rfl (run_assign (v := B false) rfl) ?_
  refine RL.nil ?_
  refine CW.seq ?_
  refine CW.region ?_
  refine RL.val rfl (run_move (v := U _) rfl) ?_
  refine RL.callR rfl hH (c_clearanceref01_List _  _) (run_call1 Tryz.call77 rfl) ?_
  intro v3 w1 hH2
  refine RL.val rfl (run_assign (by conv => lhs; whnf)) ?_
  refine RL.nil ?_
  refine CW.seq ?_
  refine CW.seq ?_
  refine CW.region ?_
  refine RL.val rfl (run_assign (v := I 0) rfl) ?_
  refine RL.nil ?_
  refine CW.block ?_
  refine CW.loop (G := (Int)) (fun (k : Int) s' w' => (Fr [4, 6, 9, 10, 11, 12, 13, 14, 15, 16, 17, 18, 19, 20, 21] _ s') ∧ (Hp w w' _) ∧ (s' 6 = I k) ∧ (0 ≤ k) ∧ (k ≤ (lst a).length) ∧ (∀ j : Int, 0 ≤ j → j < k → hasB b ((lst a).getD j.toNat 0) = true)) (fun (k : Int) => ((lst a).length - k).toNat) (0) ⟨Fr.refl _ _, hH2, rfl, (by omega), (by omega), fun j a b => absurd b (by omega)⟩ ?_
  rintro k sg4 w4 ⟨fr4, hH4, e6_4, h0, hk, hf⟩
  have e1_4 : sg4 1 = U _ := (fr4 1 rfl).trans rfl
  have e5_4 := (fr4 5 rfl).trans (by conv => lhs; whnf)
  refine CW.seq ?_
  refine CW.seq ?_
  refine CW.region ?_
  refine RL.val rfl (run_move e6_4) ?_
  refine RL.val rfl (run_move e5_4) ?_
  refine RL.val rfl (run_lenSl (hH4.sl (i := 0) rfl) rfl Tryz.underlying72 rfl) ?_
  refine RL.val rfl (run_lss rfl rfl) ?_
  refine RL.nil ?_
  refine CW.condP rfl (fun h6 => ?_) (fun h6 => ?_)
  · refine CW.skip ?_
    refine CW.seq ?_
    refine CW.block ?_
    refine CW.seq ?_
    refine CW.region ?_
    refine RL.val rfl (run_move e1_4) ?_
    refine RL.val rfl (run_move e5_4) ?_
    refine RL.val rfl (run_move e6_4) ?_
    refine RL.val rfl (run_indexAddrS (hH4.sl (i := 0) rfl) Tryz.underlying72 Tryz.sizeOf3 rfl rfl (by omega)) ?_
    refine RL.val rfl (run_ld Tryz.underlying3 rfl rfl ((hH4.sl (i := 0) rfl).cell _ _ (map_at (by omega)))) ?_
    refine RL.callP rfl hH4 (c_clearanceref01_Has _ _  _) (run_call2 Tryz.call78 rfl rfl) ?_
    intro w7 hH8
    refine RL.val rfl (run_not rfl) ?_
    refine RL.nil ?_
    refine CW.cond rfl (fun h11 => ?_) (fun h11 => ?_)
    · refine CW.seq ?_
      refine CW.region ?_
      refine RL.val rfl (run_assign (v := B false) rfl) ?_
      refine RL.nil ?_
      refine CW.ret ?_
      refine outP1 Tryz.results44 (congrArg B ?_) hH8.below
      (exact (subB_no h0 ‹_› ‹_›).symm)
    · refine CW.skip ?_
      refine CW.region ?_
      refine RL.val rfl (run_move e6_4) ?_
      refine RL.val rfl (run_add rfl rfl (by omega)) ?_
      refine RL.val rfl (run_assign (v := I _) rfl) ?_
      refine RL.nil ?_
      refine ⟨k + 1, ?_, (((((((((((((fr4.u rfl).u rfl).u rfl).u rfl).u rfl).u rfl).u rfl).u rfl).u rfl).u rfl).u rfl).u rfl).u rfl).u rfl, hH8, (congrArg I (by first | rfl | omega)), ?_, ?_, ?_⟩
      · ((try dsimp only); omega)
      · omega
      · omega
      · exact fun j x y => if e : j = k then e ▸ (by simpa using ‹(!hasB b ((lst a).getD k.toNat 0)) = false›) else hf j x (by omega)
  · refine CW.exit (id := 0) rfl ?_
    refine CW.seq ?_
    refine CW.region ?_
    refine RL.val rfl (run_assign (v := B true) rfl) ?_
    refine RL.nil ?_
    refine CW.ret ?_
    refine outP1 Tryz.results44 (congrArg B ?_) hH4.below
    (exact (subB_yes fun j x y => hf j x (by omega)).symm)

theorem c_clearanceref03_Points (r : Rl) (w : World) : Calls Tryz.prog 54 #[.agg (relC r)] w (Pure (I (pts r)) w) := by
  refine enter Tryz.func54 rfl Tryz.ntmps54 rfl ?_
  have hH := Hp.start w
  refine CW.seq ?_
  refine CW.region ?_
  refine RL.new rfl hH (f := fun b => (.pointer (some ⟨b, 0, none⟩))) (run_box (v := .agg _) rfl) ?_
  intro b3 w1 hH2
  refine RL.val rfl (run_assign (v := I 0) rfl) ?_
  refine RL.nil ?_
  refine CW.seq ?_
  refine CW.seq ?_
  refine CW.region ?_
  refine RL.val rfl (run_fieldAddr Tryz.underlying42 rfl (off := 0) rfl Tryz.sizeOf3 (by decide) rfl) ?_
  refine RL.val rfl (run_ld Tryz.underlying3 rfl rfl (hH2.cell (i := 0) rfl (relC_N _))) ?_
  refine RL.val rfl (run_lss rfl rfl) ?_
  refine RL.nil ?_
  refine CW.condP rfl (fun h5 => ?_) (fun h5 => ?_)
  · refine CW.seq ?_
    refine CW.region ?_
    refine RL.val rfl (run_assign (v := I 0) rfl) ?_
    refine RL.nil ?_
    refine CW.ret ?_
    refine outP1 Tryz.results54 (congrArg I ?_) hH2.below
    (unfold pts; omega)
  · refine CW.skip ?_
    refine CW.seq ?_
    refine CW.seq ?_
    refine CW.region ?_
    refine RL.val rfl (run_fieldAddr Tryz.underlying42 rfl (off := 0) rfl Tryz.sizeOf3 (by decide) rfl) ?_
    refine RL.val rfl (run_ld Tryz.underlying3 rfl rfl (hH2.cell (i := 0) rfl (relC_N _))) ?_
    refine RL.val rfl (run_gtr rfl rfl) ?_
    refine RL.nil ?_
    refine CW.condP rfl (fun h7 => ?_) (fun h7 => ?_)
    · refine CW.seq ?_
      refine CW.region ?_
      refine RL.val rfl (run_assign (v := I 64) rfl) ?_
      refine RL.nil ?_
      refine CW.ret ?_
      refine outP1 Tryz.results54 (congrArg I ?_) hH2.below
      (unfold pts; omega)
    · refine CW.skip ?_
      refine CW.seq ?_
      refine CW.region ?_
      refine RL.val rfl (run_fieldAddr Tryz.underlying42 rfl (off := 0) rfl Tryz.sizeOf3 (by decide) rfl) ?_
      refine RL.val rfl (run_ld Tryz.underlying3 rfl rfl (hH2.cell (i := 0) rfl (relC_N _))) ?_
      refine RL.val rfl (run_assign (v := I _) rfl) ?_
      refine RL.nil ?_
      refine CW.ret ?_
      refine outP1 Tryz.results54 (congrArg I ?_) hH2.below
      (unfold pts; omega)

theorem c_relate_points (r : Rl) (w : World) : Calls Tryz.prog 100 #[.agg (relC r)] w (Pure (I (pts r)) w) := by
  refine enter Tryz.func100 rfl Tryz.ntmps100 rfl ?_
  have hH := Hp.start w
  refine CW.seq ?_
  refine CW.region ?_
  refine RL.new rfl hH (f := fun b => (.pointer (some ⟨b, 0, none⟩))) (run_box (v := .agg _) rfl) ?_
  intro b3 w1 hH2
  refine RL.val rfl (run_assign (v := I 0) rfl) ?_
  refine RL.nil ?_
  refine CW.seq ?_
  refine CW.region ?_
  refine RL.val rfl (run_fieldAddr Tryz.underlying42 rfl (off := 0) rfl Tryz.sizeOf3 (by decide) rfl) ?_
  refine RL.val rfl (run_ld Tryz.underlying3 rfl rfl (hH2.cell (i := 0) rfl (relC_N _))) ?_
  refine RL.val rfl (run_minI rfl rfl) ?_
  refine RL.val rfl (run_maxI rfl rfl) ?_
  refine RL.val rfl (run_assign (v := I _) rfl) ?_
  refine RL.nil ?_
  refine CW.ret ?_
  refine outP1 Tryz.results100 (congrArg I ?_) hH2.below
  rfl

theorem c_clearanceref03_Has (r : Rl) (i j : Int) (w : World) : Calls Tryz.prog 61 #[.agg (relC r), I i, I j] w (Pure (B (hasR r i j)) w) := by
  have hp := pts_bd r
  refine enter Tryz.func61 rfl Tryz.ntmps61 rfl ?_
  have hH := Hp.start w
  refine CW.seq ?_
  refine CW.region ?_
  refine RL.new rfl hH (f := fun b => (.pointer (some ⟨b, 0, none⟩))) (run_box (v := .agg _) rfl) ?_
  intro b3 w1 hH2
  refine RL.val rfl (run_assign (v := B false) rfl) ?_
  refine RL.nil ?_
  refine CW.seq ?_
  refine CW.region ?_
  refine RL.val rfl (run_ldRel Tryz.underlying42 rfl rfl rfl (hH2.blk (i := 0) rfl)) ?_
  refine RL.callP rfl hH2 (c_clearanceref03_Points _  _) (run_call1 Tryz.call54 rfl) ?_
  intro w4 hH5
  refine RL.val rfl (run_assign (v := I _) rfl) ?_
  refine RL.nil ?_
  refine CW.seq ?_
  refine CW.region ?_
  refine RL.val rfl (run_move (v := I _) rfl) ?_
  refine RL.val rfl (run_geq rfl rfl) ?_
  refine RL.val rfl (run_move (v := B _) rfl) ?_
  refine RL.splitP (dj := 12) rfl (fun h7 => ?_) (fun h7 => ?_)
  · refine RL.gT rfl (bT h7) ?_
    refine RL.val rfl (run_move (v := I _) rfl) ?_
    refine RL.gT rfl (bT h7) ?_
    refine RL.val rfl (run_geq rfl rfl) ?_
    refine RL.val rfl (run_pickT (bT h7) (v := B _) rfl) ?_
    refine RL.val rfl (run_move (v := B _) rfl) ?_
    refine RL.splitP (dj := 16) rfl (fun h9 => ?_) (fun h9 => ?_)
    · refine RL.gT rfl (bT h9) ?_
      refine RL.val rfl (run_move (v := I _) rfl) ?_
      refine RL.gT rfl (bT h9) ?_
      refine RL.val rfl (run_move (v := I _) rfl) ?_
      refine RL.gT rfl (bT h9) ?_
      refine RL.val rfl (run_lss rfl rfl) ?_
      refine RL.val rfl (run_pickT (bT h9) (v := B _) rfl) ?_
      refine RL.val rfl (run_move (v := B _) rfl) ?_
      refine RL.splitP (dj := 21) rfl (fun h11 => ?_) (fun h11 => ?_)
      · refine RL.gT rfl (bT h11) ?_
        refine RL.val rfl (run_move (v := I _) rfl) ?_
        refine RL.gT rfl (bT h11) ?_
        refine RL.val rfl (run_move (v := I _) rfl) ?_
        refine RL.gT rfl (bT h11) ?_
        refine RL.val rfl (run_lss rfl rfl) ?_
        refine RL.val rfl (run_pickT (bT h11) (v := B _) rfl) ?_
        refine RL.val rfl (run_move (v := B _) rfl) ?_
        refine RL.splitP (dj := 26) rfl (fun h13 => ?_) (fun h13 => ?_)
        · refine RL.gT rfl (bT h13) ?_
          refine RL.val rfl (run_move (v := I _) rfl) ?_
          refine RL.gT rfl (bT h13) ?_
          refine RL.val rfl (run_fieldAddr Tryz.underlying42 rfl (off := 1) rfl Tryz.sizeOf40 (by decide) rfl) ?_
          refine RL.gT rfl (bT h13) ?_
          refine RL.val rfl (run_indexAddrA Tryz.underlying40 Tryz.sizeOf28 rfl rfl (by omega)) ?_
          refine RL.gT rfl (bT h13) ?_
          refine RL.val rfl (run_ld Tryz.underlying28 rfl rfl (hH5.cell (i := 0) rfl (relC_up _ (by omega)))) ?_
          refine RL.gT rfl (bT h13) ?_
          refine RL.val rfl (run_move (v := I _) rfl) ?_
          refine RL.gT rfl (bT h13) ?_
          refine RL.val rfl (run_convIU Tryz.underlying3 Tryz.underlying88 rfl) ?_
          refine RL.gT rfl (bT h13) ?_
          refine RL.val rfl (run_shrU rfl rfl) ?_
          refine RL.gT rfl (bT h13) ?_
          refine RL.val rfl (run_remU rfl (b := 2#64) rfl (by decide)) ?_
          refine RL.gT rfl (bT h13) ?_
          refine RL.val rfl (run_eqlU rfl (b := 1#64) rfl) ?_
          refine RL.val rfl (run_pickT (bT h13) (v := B _) rfl) ?_
          refine RL.val rfl (run_assign (v := B _) rfl) ?_
          refine RL.nil ?_
          refine CW.ret ?_
          refine outP1 Tryz.results61 (congrArg B ?_) hH5.below
          first | exact has_ref (by omega) (by omega) (by omega) (by omega) | exact (has_out (by omega)).symm
        · refine RL.gF rfl rfl (bF h13) rfl ?_
          refine RL.gF rfl rfl (bF h13) rfl ?_
          refine RL.gF rfl rfl (bF h13) rfl ?_
          refine RL.gF rfl rfl (bF h13) rfl ?_
          refine RL.gF rfl rfl (bF h13) rfl ?_
          refine RL.gF rfl rfl (bF h13) rfl ?_
          refine RL.gF rfl rfl (bF h13) rfl ?_
          refine RL.gF rfl rfl (bF h13) rfl ?_
          refine RL.gF rfl rfl (bF h13) rfl ?_
          refine RL.val rfl (run_pickF (bF h13) (v := B false) rfl) ?_
          refine RL.val rfl (run_assign (v := B _) rfl) ?_
          refine RL.nil ?_
          refine CW.ret ?_
          refine outP1 Tryz.results61 (congrArg B ?_) hH5.below
          first | exact has_ref (by omega) (by omega) (by omega) (by omega) | exact (has_out (by omega)).symm
      · refine RL.gF rfl rfl (bF h11) rfl ?_
        refine RL.gF rfl rfl (bF h11) rfl ?_
        refine RL.gF rfl rfl (bF h11) rfl ?_
        refine RL.val rfl (run_pickF (bF h11) (v := B false) rfl) ?_
        refine RL.val rfl (run_move (v := B _) rfl) ?_
        refine RL.gF rfl rfl rfl rfl ?_
        refine RL.gF rfl rfl rfl rfl ?_
        refine RL.gF rfl rfl rfl rfl ?_
        refine RL.gF rfl rfl rfl rfl ?_
        refine RL.gF rfl rfl rfl rfl ?_
        refine RL.gF rfl rfl rfl rfl ?_
        refine RL.gF rfl rfl rfl rfl ?_
        refine RL.gF rfl rfl rfl rfl ?_
        refine RL.gF rfl rfl rfl rfl ?_
        refine RL.val rfl (run_pickF rfl (v := B false) rfl) ?_
        refine RL.val rfl (run_assign (v := B _) rfl) ?_
        refine RL.nil ?_
        refine CW.ret ?_
        refine outP1 Tryz.results61 (congrArg B ?_) hH5.below
        first | exact has_ref (by omega) (by omega) (by omega) (by omega) | exact (has_out (by omega)).symm
    · refine RL.gF rfl rfl (bF h9) rfl ?_
      refine RL.gF rfl rfl (bF h9) rfl ?_
      refine RL.gF rfl rfl (bF h9) rfl ?_
      refine RL.val rfl (run_pickF (bF h9) (v := B false) rfl) ?_
      refine RL.val rfl (run_move (v := B _) rfl) ?_
      refine RL.gF rfl rfl rfl rfl ?_
      refine RL.gF rfl rfl rfl rfl ?_
      refine RL.gF rfl rfl rfl rfl ?_
      refine RL.val rfl (run_pickF rfl (v := B false) rfl) ?_
      refine RL.val rfl (run_move (v := B _) rfl) ?_
      refine RL.gF rfl rfl rfl rfl ?_
      refine RL.gF rfl rfl rfl rfl ?_
      refine RL.gF rfl rfl rfl rfl ?_
      refine RL.gF rfl rfl rfl rfl ?_
      refine RL.gF rfl rfl rfl rfl ?_
      refine RL.gF rfl rfl rfl rfl ?_
      refine RL.gF rfl rfl rfl rfl ?_
      refine RL.gF rfl rfl rfl rfl ?_
      refine RL.gF rfl rfl rfl rfl ?_
      refine RL.val rfl (run_pickF rfl (v := B false) rfl) ?_
      refine RL.val rfl (run_assign (v := B _) rfl) ?_
      refine RL.nil ?_
      refine CW.ret ?_
      refine outP1 Tryz.results61 (congrArg B ?_) hH5.below
      first | exact has_ref (by omega) (by omega) (by omega) (by omega) | exact (has_out (by omega)).symm
  · refine RL.gF rfl rfl (bF h7) rfl ?_
    refine RL.gF rfl rfl (bF h7) rfl ?_
    refine RL.val rfl (run_pickF (bF h7) (v := B false) rfl) ?_
    refine RL.val rfl (run_move (v := B _) rfl) ?_
    refine RL.gF rfl rfl rfl rfl ?_
    refine RL.gF rfl rfl rfl rfl ?_
    refine RL.gF rfl rfl rfl rfl ?_
    refine RL.val rfl (run_pickF rfl (v := B false) rfl) ?_
    refine RL.val rfl (run_move (v := B _) rfl) ?_
    refine RL.gF rfl rfl rfl rfl ?_
    refine RL.gF rfl rfl rfl rfl ?_
    refine RL.gF rfl rfl rfl rfl ?_
    refine RL.val rfl (run_pickF rfl (v := B false) rfl) ?_
    refine RL.val rfl (run_move (v := B _) rfl) ?_
    refine RL.gF rfl rfl rfl rfl ?_
    refine RL.gF rfl rfl rfl rfl ?_
    refine RL.gF rfl rfl rfl rfl ?_
    refine RL.gF rfl rfl rfl rfl ?_
    refine RL.gF rfl rfl rfl rfl ?_
    refine RL.gF rfl rfl rfl rfl ?_
    refine RL.gF rfl rfl rfl rfl ?_
    refine RL.gF rfl rfl rfl rfl ?_
    refine RL.gF rfl rfl rfl rfl ?_
    refine RL.val rfl (run_pickF rfl (v := B false) rfl) ?_
    refine RL.val rfl (run_assign (v := B _) rfl) ?_
    refine RL.nil ?_
    refine CW.ret ?_
    refine outP1 Tryz.results61 (congrArg B ?_) hH5.below
    first | exact has_ref (by omega) (by omega) (by omega) (by omega) | exact (has_out (by omega)).symm

theorem c_clearanceref03_In (v : Value) (l : List Int) (x : Int) (w : World) (hs : Sl w v 1 l.length (l.map I)) : Calls Tryz.prog 135 #[v, I x] w (Pure (B (l.contains x)) w) := by
  have hm := hs.small
  unfold maxLen at hm
  refine enter Tryz.func135 rfl Tryz.ntmps135 rfl ?_
  have hH := Hp.start w
  refine CW.seq ?_
  refine CW.region ?_
  refine RL.val rfl (run_assign (v := B false) rfl) ?_
  refine RL.nil ?_
  refine CW.seq ?_
  refine CW.seq ?_
  refine CW.region ?_
  refine RL.val rfl (run_assign (v := I 0) rfl) ?_
  refine RL.nil ?_
  refine CW.block ?_
  refine CW.loop (G := (Int)) (fun (k : Int) s' w' => (Fr [4, 5, 6, 7, 8, 9, 10, 11, 12, 13, 14, 15, 16, 17] _ s') ∧ (Hp w w' _) ∧ (s' 5 = I k) ∧ (0 ≤ k) ∧ (k ≤ l.length) ∧ (∀ j : Int, 0 ≤ j → j < k → l.getD j.toNat 0 ≠ x)) (fun (k : Int) => (l.length - k).toNat) (0) ⟨Fr.refl _ _, hH, rfl, (by omega), (by omega), fun j a b => absurd b (by omega)⟩ ?_
  rintro k sg1 w1 ⟨fr1, hH1, e5_1, h0, hk, hf⟩
  have e0_1 := (fr1 0 rfl).trans (by conv => lhs; whnf)
  have e1_1 : sg1 1 = I _ := (fr1 1 rfl).trans rfl
  refine CW.seq ?_
  refine CW.seq ?_
  refine CW.region ?_
  refine RL.val rfl (run_move e5_1) ?_
  refine RL.val rfl (run_move e0_1) ?_
  refine RL.val rfl (run_lenSl (hs.hp hH1) rfl Tryz.underlying72 rfl) ?_
  refine RL.val rfl (run_lss rfl rfl) ?_
  refine RL.nil ?_
  refine CW.condP rfl (fun h3 => ?_) (fun h3 => ?_)
  · refine CW.skip ?_
    refine CW.seq ?_
    refine CW.block ?_
    refine CW.seq ?_
    refine CW.region ?_
    refine RL.val rfl (run_move e0_1) ?_
    refine RL.val rfl (run_move e5_1) ?_
    refine RL.val rfl (run_indexAddrS (hs.hp hH1) Tryz.underlying72 Tryz.sizeOf3 rfl rfl (by omega)) ?_
    refine RL.val rfl (run_ld Tryz.underlying3 rfl rfl ((hs.hp hH1).cell _ _ (map_at (by omega)))) ?_
    refine RL.val rfl (run_move e1_1) ?_
    refine RL.val rfl (run_eql rfl rfl) ?_
    refine RL.nil ?_
    refine CW.condP rfl (fun h5 => ?_) (fun h5 => ?_)
    · refine CW.seq ?_
      refine CW.region ?_
      refine RL.val rfl (run_assign (v := B true) rfl) ?_
      refine RL.nil ?_
      refine CW.ret ?_
      refine outP1 Tryz.results135 (congrArg B ?_) hH1.below
      (exact (in_yes h0 ‹_› ‹_›).symm)
    · refine CW.skip ?_
      refine CW.region ?_
      refine RL.val rfl (run_move e5_1) ?_
      refine RL.val rfl (run_add rfl rfl (by omega)) ?_
      refine RL.val rfl (run_assign (v := I _) rfl) ?_
      refine RL.nil ?_
      refine ⟨k + 1, ?_, ((((((((((((fr1.u rfl).u rfl).u rfl).u rfl).u rfl).u rfl).u rfl).u rfl).u rfl).u rfl).u rfl).u rfl).u rfl, hH1, (congrArg I (by first | rfl | omega)), ?_, ?_, ?_⟩
      · ((try dsimp only); omega)
      · omega
      · omega
      · exact fun j a b => if e : j = k then e ▸ ‹¬ l.getD k.toNat 0 = x› else hf j a (by omega)
  · refine CW.exit (id := 0) rfl ?_
    refine CW.seq ?_
    refine CW.region ?_
    refine RL.val rfl (run_assign (v := B false) rfl) ?_
    refine RL.nil ?_
    refine CW.ret ?_
    refine outP1 Tryz.results135 (congrArg B ?_) hH1.below
    (exact (in_no fun j a b => hf j a (by omega)).symm)

theorem c_relate_row (r : Rl) (i : Int) (hi : 0 ≤ i ∧ i < 64) (w : World) : Calls Tryz.prog 114 #[.agg (relC r), I i] w (Pure (U (rowR r i)) w) := by
  refine enter Tryz.func114 rfl Tryz.ntmps114 rfl ?_
  have hH := Hp.start w
  refine CW.seq ?_
  refine CW.region ?_
  refine RL.new rfl hH (f := fun b => (.pointer (some ⟨b, 0, none⟩))) (run_box (v := .agg _) rfl) ?_
  intro b3 w1 hH2
  refine RL.val rfl (run_assign (v := U 0#64) rfl) ?_
  refine RL.nil ?_
  refine CW.seq ?_
  refine CW.regionD (by kernel_rfl) hH2 ?_
  intro w4 hH5
  refine AN.take 0 rfl rfl (by kernel_rfl) (by kernel_rfl) (by kernel_rfl) (hH5.sub (List.Sublist.refl _)) (fun w hS => run_move (v := I _) rfl) ?_
  refine AN.take 1 rfl rfl (by kernel_rfl) (by kernel_rfl) (by kernel_rfl) (hH5.sub (List.Sublist.refl _)) (fun w hS => run_fieldAddr Tryz.underlying42 rfl (off := 1) rfl Tryz.sizeOf40 (by decide) rfl) ?_
  refine AN.take 2 rfl rfl (by kernel_rfl) (by kernel_rfl) (by kernel_rfl) (hH5.sub (List.Sublist.refl _)) (fun w hS => run_indexAddrA Tryz.underlying40 Tryz.sizeOf28 rfl rfl (by omega)) ?_
  refine AN.take 3 rfl rfl (by kernel_rfl) (by kernel_rfl) (by kernel_rfl) (hH5.sub (List.Sublist.refl _)) (fun w hS => run_ld Tryz.underlying28 rfl rfl (hS.cell (i := 0) rfl (relC_up _ (by omega)))) ?_
  refine AN.take 4 rfl rfl (by kernel_rfl) (by kernel_rfl) (by kernel_rfl) (hH5.sub (List.Sublist.refl _)) (fun w hS => run_ldRel Tryz.underlying42 rfl rfl rfl (hS.blk (i := 0) rfl)) ?_
  refine AN.one 5 (by kernel_rfl) ?_
  refine AO.callP rfl gnone rfl hH5 (List.Sublist.refl _) (c_relate_points _  _) (run_call1 Tryz.call100 rfl) ?_
  intro w6 hH7
  refine AN.one 6 (by kernel_rfl) ?_
  refine AO.callP rfl gnone rfl hH7 (List.Sublist.refl _) (c_mask_Below _  _) (run_call1 Tryz.call64 rfl) ?_
  intro w8 hH9
  refine AN.take 7 rfl rfl (by kernel_rfl) (by kernel_rfl) (by kernel_rfl) (hH9.sub (List.Sublist.refl _)) (fun w hS => run_andU rfl rfl) ?_
  refine AN.take 8 rfl rfl (by kernel_rfl) (by kernel_rfl) (by kernel_rfl) (hH9.sub (List.Sublist.refl _)) (fun w hS => run_assign (v := U _) rfl) ?_
  refine AN.done (by kernel_rfl) ?_
  refine CW.ret ?_
  refine outP1 Tryz.results114 (congrArg U ?_) hH9.below
  rfl

theorem c_relate_strict (r : Rl) (i : Int) (hi : 0 ≤ i ∧ i < 64) (w : World) : Calls Tryz.prog 102 #[.agg (relC r), I i] w (Pure (U (strictR r i)) w) := by
  refine enter Tryz.func102 rfl Tryz.ntmps102 rfl ?_
  have hH := Hp.start w
  refine CW.seq ?_
  refine CW.region ?_
  refine RL.new rfl hH (f := fun b => (.pointer (some ⟨b, 0, none⟩))) (run_box (v := .agg _) rfl) ?_
  intro b3 w1 hH2
  refine RL.val rfl (run_assign (v := U 0#64) rfl) ?_
  refine RL.nil ?_
  refine CW.seq ?_
  refine CW.region ?_
  refine RL.val rfl (run_ldRel Tryz.underlying42 rfl rfl rfl (hH2.blk (i := 0) rfl)) ?_
  refine RL.val rfl (run_move (v := I _) rfl) ?_
  refine RL.callP rfl hH2 (c_relate_row _ _ (by first | assumption | omega | (dsimp only at *; omega) | exact lst_at_bd (by assumption) (by assumption) | exact low_bd (lst_at (by assumption) (by assumption))) _) (run_call2 Tryz.call114 rfl rfl) ?_
  intro w4 hH5
  refine RL.val rfl (run_move (v := I _) rfl) ?_
  refine RL.callP rfl hH5 (c_mask_Without _ _  _) (run_call2 Tryz.call125 rfl rfl) ?_
  intro w6 hH7
  refine RL.val rfl (run_assign (v := U _) rfl) ?_
  refine RL.nil ?_
  refine CW.ret ?_
  refine outP1 Tryz.results102 (congrArg U ?_) hH7.below
  rfl

theorem c_relate_plain (r : Rl) (w : World) : Calls Tryz.prog 83 #[.agg (relC r)] w (Pure (.agg (relC (plainR r))) w) := by
  have hp := pts_bd r
  refine enter Tryz.func83 rfl Tryz.ntmps83 rfl ?_
  have hH := Hp.start w
  refine CW.seq ?_
  refine CW.region ?_
  refine RL.new rfl hH (f := fun b => (.pointer (some ⟨b, 0, none⟩))) (run_box (v := .agg _) rfl) ?_
  intro b3 w1 hH2
  refine RL.new rfl hH2 (f := fun b => (.pointer (some ⟨b, 0, none⟩))) (run_alloc zero_rel) ?_
  intro b6 w4 hH5
  refine RL.nil ?_
  refine CW.seq ?_
  refine CW.region ?_
  refine RL.val rfl (run_ldRel Tryz.underlying42 rfl rfl rfl (hH5.blk (i := 1) rfl)) ?_
  refine RL.callP rfl hH5 (c_relate_points _  _) (run_call1 Tryz.call100 rfl) ?_
  intro w7 hH8
  refine RL.val rfl (run_bld (vs := [(0, I _)]) rfl (built_rel _)) ?_
  refine RL.new rfl hH8 (f := fun b => (.pointer (some ⟨b, 0, none⟩))) (run_alloc zero_rel) ?_
  intro b11 w9 hH10
  refine RL.set hH10 (i := 0) rfl (run_stRel rfl rfl rfl (hH10.blk (i := 0) rfl)) ?_
  intro w12 hH13
  simp only [List.set_cons_zero, List.set_cons_succ] at hH13
  refine RL.nil ?_
  refine CW.seq ?_
  refine CW.seq ?_
  refine CW.region ?_
  refine RL.val rfl (run_fieldAddr Tryz.underlying42 rfl (off := 0) rfl Tryz.sizeOf3 (by decide) rfl) ?_
  refine RL.val rfl (run_ld Tryz.underlying3 rfl rfl (hH13.cell (i := 0) rfl (relC_N _))) ?_
  refine RL.val rfl (run_move (v := I 0) rfl) ?_
  refine RL.nil ?_
  refine CW.block ?_
  have hz : (⟨pts r, fun _ => 0#64⟩ : Rl).n = pts r := rfl
  refine CW.loop (G := (Int) × (Rl)) (fun (⟨k, r1⟩ : (Int) × (Rl)) s' w' => (Fr [4, 10, 11, 12, 13, 14, 15, 16, 17, 18, 19] _ s') ∧ (Hp w w' (.blk b11 (.cells (relC r1) 42 (0, 0)) :: _)) ∧ (s' 10 = I k) ∧ (0 ≤ k) ∧ (k ≤ pts r) ∧ (r1 = fillR (pts r) (fun i => rowR r i) k)) (fun (⟨k, r1⟩ : (Int) × (Rl)) => (pts r - k).toNat) ((0, ⟨pts r, fun _ => 0#64⟩)) ⟨Fr.refl _ _, hH13, rfl, (by omega), (by omega), fill_zero _ _⟩ ?_
  rintro ⟨k, r1⟩ sg14 w14 ⟨fr14, hH14, e10_14, h0, hk, hr⟩
  have e1_14 : sg14 1 = .pointer (some ⟨_, _, none⟩) := (fr14 1 rfl).trans rfl
  have e2_14 : sg14 2 = .pointer (some ⟨_, _, none⟩) := (fr14 2 rfl).trans rfl
  have e3_14 : sg14 3 = .pointer (some ⟨_, _, none⟩) := (fr14 3 rfl).trans rfl
  have e9_14 : sg14 9 = I _ := (fr14 9 rfl).trans rfl
  have hn : r1.n = pts r := by rw [hr]; rfl
  refine CW.seq ?_
  refine CW.region ?_
  refine RL.val rfl (run_lss e10_14 e9_14) ?_
  refine RL.nil ?_
  refine CW.seq ?_
  refine CW.condP rfl (fun h16 => ?_) (fun h16 => ?_)
  · refine CW.skip ?_
    refine CW.seq ?_
    refine CW.block ?_
    refine CW.seq ?_
    refine CW.region ?_
    refine RL.val rfl (run_move e10_14) ?_
    refine RL.val rfl (run_assign (v := I _) rfl) ?_
    refine RL.nil ?_
    refine CW.region ?_
    refine RL.val rfl (run_move (v := I _) rfl) ?_
    refine RL.val rfl (run_ldRel Tryz.underlying42 rfl rfl e1_14 (hH14.blk (i := 2) rfl)) ?_
    refine RL.val rfl (run_move (v := I _) rfl) ?_
    refine RL.callP rfl hH14 (c_relate_row _ _ (by first | assumption | omega | (dsimp only at *; omega) | exact lst_at_bd (by assumption) (by assumption) | exact low_bd (lst_at (by assumption) (by assumption))) _) (run_call2 Tryz.call114 rfl rfl) ?_
    intro w17 hH18
    refine RL.val rfl (run_fieldAddr Tryz.underlying42 rfl (off := 1) rfl Tryz.sizeOf40 (by decide) e3_14) ?_
    refine RL.val rfl (run_indexAddrA Tryz.underlying40 Tryz.sizeOf28 rfl rfl (by first | omega | (dsimp only at *; omega))) ?_
    refine RL.set hH18 (i := 0) rfl (run_st rfl rfl (v := U _) rfl rfl rfl (hH18.blk (i := 0) rfl) (by rw [relC_size]; omega)) ?_
    intro w19 hH20
    simp only [List.set_cons_zero, List.set_cons_succ] at hH20
    rw [relC_put] at hH20
    refine RL.nil ?_
    refine CW.region ?_
    refine RL.val rfl (run_add e10_14 rfl (by omega)) ?_
    refine RL.val rfl (run_move (v := I _) rfl) ?_
    refine RL.nil ?_
    refine ⟨(k + 1, _), ?_, ((((((((((fr14.u rfl).u rfl).u rfl).u rfl).u rfl).u rfl).u rfl).u rfl).u rfl).u rfl).u rfl, hH20, (congrArg I (by first | rfl | omega)), ?_, ?_, ?_⟩
    · ((try dsimp only); omega)
    · omega
    · omega
    · rw [hr]; exact fill_put h0 (by rw [Int.toNat_of_nonneg h0])
  · refine CW.exit (id := 0) rfl ?_
    refine CW.seq ?_
    refine CW.region ?_
    refine RL.val rfl (run_ldRel Tryz.underlying42 rfl rfl e3_14 (hH14.blk (i := 0) rfl)) ?_
    refine RL.set hH14 (i := 1) rfl (run_stRel rfl e2_14 rfl (hH14.blk (i := 1) rfl)) ?_
    intro w21 hH22
    simp only [List.set_cons_zero, List.set_cons_succ] at hH22
    refine RL.nil ?_
    refine CW.ret ?_
    refine outC Tryz.results83 e2_14 hH22 (i := 1) rfl Tryz.underlying42 rfl rfl ⟨?_, hH22.below⟩
    (rw [hr, show k = pts r by omega]; rfl)

theorem c_relate_Up (r : Rl) (s : BitVec 64) (w : World) (hT : Tab w) : Calls Tryz.prog 118 #[.agg (relC r), U s] w (Pure (U (upR r s)) w) := by
  have hp := pts_bd r
  refine enter Tryz.func118 rfl Tryz.ntmps118 rfl ?_
  have hH := Hp.start w
  refine CW.seq ?_
  refine CW.region ?_
  refine RL.new rfl hH (f := fun b => (.pointer (some ⟨b, 0, none⟩))) (run_box (v := .agg _) rfl) ?_
  intro b3 w1 hH2
  refine RL.val rfl (run_assign (v := U 0#64) rfl) ?_
  refine RL.nil ?_
  refine CW.seq ?_
  refine CW.region ?_
  refine RL.val rfl (run_assign (v := U 0#64) rfl) ?_
  refine RL.nil ?_
  refine CW.seq ?_
  refine CW.seq ?_
  refine CW.region ?_
  refine RL.val rfl (run_move (v := U _) rfl) ?_
  refine RL.val rfl (run_ldRel Tryz.underlying42 rfl rfl rfl (hH2.blk (i := 0) rfl)) ?_
  refine RL.callP rfl hH2 (c_relate_points _  _) (run_call1 Tryz.call100 rfl) ?_
  intro w4 hH5
  refine RL.callP rfl hH5 (c_mask_Below _  _) (run_call1 Tryz.call64 rfl) ?_
  intro w6 hH7
  refine RL.val rfl (run_andU rfl rfl) ?_
  refine RL.callR rfl hH7 (c_mask_List _  _ (hT.hp hH7)) (run_call1 Tryz.call101 rfl) ?_
  intro v10 w8 hH9
  refine RL.val rfl (run_lenSl (hH9.sl (i := 0) rfl) rfl Tryz.underlying72 rfl) ?_
  refine RL.val rfl (run_move (v := I 0) rfl) ?_
  refine RL.nil ?_
  refine CW.block ?_
  have hl := lst_len (s &&& below (pts r))
  refine CW.loop (G := (Int)) (fun (k : Int) s' w' => (Fr [5, 7, 15, 16, 17, 18, 19, 20, 21, 22, 23, 24] _ s') ∧ (Hp w w' _) ∧ (s' 5 = U (orAll (rowR r) ((lst (s &&& below (pts r))).take k.toNat))) ∧ (s' 15 = I k) ∧ (0 ≤ k) ∧ (k ≤ (lst (s &&& below (pts r))).length)) (fun (k : Int) => ((lst (s &&& below (pts r))).length - k).toNat) (0) ⟨Fr.refl _ _, hH9, (congrArg U (by simp [orAll])), rfl, (by omega), (by omega)⟩ ?_
  rintro k sg11 w11 ⟨fr11, hH11, e5_11, e15_11, h0, hk⟩
  have e2_11 : sg11 2 = .pointer (some ⟨_, _, none⟩) := (fr11 2 rfl).trans rfl
  have e4_11 : sg11 4 = U _ := (fr11 4 rfl).trans rfl
  have e13_11 := (fr11 13 rfl).trans (by conv => lhs; whnf)
  have e14_11 : sg11 14 = I _ := (fr11 14 rfl).trans rfl
  refine CW.seq ?_
  refine CW.region ?_
  refine RL.val rfl (run_lss e15_11 e14_11) ?_
  refine RL.nil ?_
  refine CW.seq ?_
  refine CW.condP rfl (fun h13 => ?_) (fun h13 => ?_)
  · refine CW.skip ?_
    refine CW.seq ?_
    refine CW.block ?_
    refine CW.seq ?_
    refine CW.region ?_
    refine RL.val rfl (run_indexAddrS (hH11.sl (i := 0) rfl) Tryz.underlying72 Tryz.sizeOf3 e13_11 e15_11 (by omega)) ?_
    refine RL.val rfl (run_ld Tryz.underlying3 rfl rfl ((hH11.sl (i := 0) rfl).cell _ _ (map_at (by omega)))) ?_
    refine RL.val rfl (run_assign (v := I _) rfl) ?_
    refine RL.nil ?_
    refine CW.region ?_
    refine RL.val rfl (run_move e5_11) ?_
    refine RL.val rfl (run_ldRel Tryz.underlying42 rfl rfl e2_11 (hH11.blk (i := 1) rfl)) ?_
    refine RL.val rfl (run_move (v := I _) rfl) ?_
    refine RL.callP rfl hH11 (c_relate_row _ _ (by first | assumption | omega | (dsimp only at *; omega) | exact lst_at_bd (by assumption) (by assumption) | exact low_bd (lst_at (by assumption) (by assumption))) _) (run_call2 Tryz.call114 rfl rfl) ?_
    intro w14 hH15
    refine RL.val rfl (run_orU rfl rfl) ?_
    refine RL.val rfl (run_assign (v := U _) rfl) ?_
    refine RL.nil ?_
    refine CW.region ?_
    refine RL.val rfl (run_add e15_11 rfl (by omega)) ?_
    refine RL.val rfl (run_move (v := I _) rfl) ?_
    refine RL.nil ?_
    refine ⟨k + 1, ?_, (((((((((((fr11.u rfl).u rfl).u rfl).u rfl).u rfl).u rfl).u rfl).u rfl).u rfl).u rfl).u rfl).u rfl, hH15, (congrArg U (orAll_next h0 ‹_›)), (congrArg I (by first | rfl | omega)), ?_, ?_⟩
    · ((try dsimp only); omega)
    · omega
    · omega
  · refine CW.exit (id := 0) rfl ?_
    refine CW.seq ?_
    refine CW.region ?_
    refine RL.val rfl (run_move e5_11) ?_
    refine RL.val rfl (run_assign (v := U _) rfl) ?_
    refine RL.nil ?_
    refine CW.ret ?_
    refine outP1 Tryz.results118 (congrArg U ?_) hH11.below
    (rw [take_all ‹_›]; rfl)

theorem c_relate_Down (r : Rl) (s : BitVec 64) (w : World) : Calls Tryz.prog 120 #[.agg (relC r), U s] w (Pure (U (downR r s)) w) := by
  have hp := pts_bd r
  refine enter Tryz.func120 rfl Tryz.ntmps120 rfl ?_
  have hH := Hp.start w
  refine CW.seq ?_
  refine CW.region ?_
  refine RL.new rfl hH (f := fun b => (.pointer (some ⟨b, 0, none⟩))) (run_box (v := .agg _) rfl) ?_
  intro b3 w1 hH2
  refine RL.val rfl (run_assign (v := U 0#64) rfl) ?_
  refine RL.nil ?_
  refine CW.seq ?_
  refine CW.region ?_
  refine RL.val rfl (run_assign (v := U 0#64) rfl) ?_
  refine RL.nil ?_
  refine CW.seq ?_
  refine CW.seq ?_
  refine CW.region ?_
  refine RL.val rfl (run_ldRel Tryz.underlying42 rfl rfl rfl (hH2.blk (i := 0) rfl)) ?_
  refine RL.callP rfl hH2 (c_relate_points _  _) (run_call1 Tryz.call100 rfl) ?_
  intro w4 hH5
  refine RL.val rfl (run_move (v := I 0) rfl) ?_
  refine RL.nil ?_
  refine CW.block ?_
  refine CW.loop (G := (Int)) (fun (k : Int) s' w' => (Fr [5, 6, 9, 10, 11, 12, 13, 14, 15, 16, 17, 18, 19, 20, 21] _ s') ∧ (Hp w w' _) ∧ (s' 5 = U (downTo r s k)) ∧ (s' 9 = I k) ∧ (0 ≤ k) ∧ (k ≤ pts r)) (fun (k : Int) => (pts r - k).toNat) (0) ⟨Fr.refl _ _, hH5, (congrArg U (by simp [downTo, bitsTo])), rfl, (by omega), (by omega)⟩ ?_
  rintro k sg6 w6 ⟨fr6, hH6, e5_6, e9_6, h0, hk⟩
  have e1_6 : sg6 1 = U _ := (fr6 1 rfl).trans rfl
  have e2_6 : sg6 2 = .pointer (some ⟨_, _, none⟩) := (fr6 2 rfl).trans rfl
  have e4_6 : sg6 4 = U _ := (fr6 4 rfl).trans rfl
  have e8_6 : sg6 8 = I _ := (fr6 8 rfl).trans rfl
  refine CW.seq ?_
  refine CW.region ?_
  refine RL.val rfl (run_lss e9_6 e8_6) ?_
  refine RL.nil ?_
  refine CW.seq ?_
  refine CW.condP rfl (fun h8 => ?_) (fun h8 => ?_)
  · refine CW.skip ?_
    refine CW.seq ?_
    refine CW.block ?_
    refine CW.seq ?_
    refine CW.region ?_
    refine RL.val rfl (run_move e9_6) ?_
    refine RL.val rfl (run_assign (v := I _) rfl) ?_
    refine RL.nil ?_
    refine CW.seq ?_
    refine CW.region ?_
    refine RL.val rfl (run_ldRel Tryz.underlying42 rfl rfl e2_6 (hH6.blk (i := 0) rfl)) ?_
    refine RL.val rfl (run_move (v := I _) rfl) ?_
    refine RL.callP rfl hH6 (c_relate_row _ _ (by first | assumption | omega | (dsimp only at *; omega) | exact lst_at_bd (by assumption) (by assumption) | exact low_bd (lst_at (by assumption) (by assumption))) _) (run_call2 Tryz.call114 rfl rfl) ?_
    intro w9 hH10
    refine RL.val rfl (run_move e1_6) ?_
    refine RL.val rfl (run_andU rfl rfl) ?_
    refine RL.val rfl (run_neqU rfl (b := 0#64) rfl) ?_
    refine RL.nil ?_
    refine CW.condP rfl (fun h12 => ?_) (fun h12 => ?_)
    · refine CW.region ?_
      refine RL.val rfl (run_move e5_6) ?_
      refine RL.val rfl (run_move (v := I _) rfl) ?_
      refine RL.callP rfl hH10 (c_mask_With _ _  _) (run_call2 Tryz.call131 rfl rfl) ?_
      intro w13 hH14
      refine RL.val rfl (run_assign (v := U _) rfl) ?_
      refine RL.nil ?_
      refine CW.region ?_
      refine RL.val rfl (run_add e9_6 rfl (by omega)) ?_
      refine RL.val rfl (run_move (v := I _) rfl) ?_
      refine RL.nil ?_
      refine ⟨k + 1, ?_, ((((((((((((((fr6.u rfl).u rfl).u rfl).u rfl).u rfl).u rfl).u rfl).u rfl).u rfl).u rfl).u rfl).u rfl).u rfl).u rfl).u rfl, hH14, (congrArg U (by first | exact down_yes h0 (by omega) ‹_› | exact down_not h0 ‹_›)), (congrArg I (by first | rfl | omega)), ?_, ?_⟩
      · ((try dsimp only); omega)
      · omega
      · omega
    · refine CW.skip ?_
      refine CW.region ?_
      refine RL.val rfl (run_add e9_6 rfl (by omega)) ?_
      refine RL.val rfl (run_move (v := I _) rfl) ?_
      refine RL.nil ?_
      refine ⟨k + 1, ?_, ((((((((((fr6.u rfl).u rfl).u rfl).u rfl).u rfl).u rfl).u rfl).u rfl).u rfl).u rfl).u rfl, hH10, (Eq.trans e5_6 (congrArg U (by first | exact down_yes h0 (by omega) ‹_› | exact down_not h0 ‹_›))), (congrArg I (by first | rfl | omega)), ?_, ?_⟩
      · ((try dsimp only); omega)
      · omega
      · omega
  · refine CW.exit (id := 0) rfl ?_
    refine CW.seq ?_
    refine CW.region ?_
    refine RL.val rfl (run_move e5_6) ?_
    refine RL.val rfl (run_assign (v := U _) rfl) ?_
    refine RL.nil ?_
    refine CW.ret ?_
    refine outP1 Tryz.results120 (congrArg U ?_) hH6.below
    (rw [show k = pts r by omega]; rfl)

theorem c_clearanceref03_Plain (r : Rl) (w : World) : Calls Tryz.prog 58 #[.agg (relC r)] w (Pure (.agg (relC (plainR r))) w) := by
  have hp := pts_bd r
  refine enter Tryz.func58 rfl Tryz.ntmps58 rfl ?_
  have hH := Hp.start w
  refine CW.seq ?_
  refine CW.region ?_
  refine RL.new rfl hH (f := fun b => (.pointer (some ⟨b, 0, none⟩))) (run_box (v := .agg _) rfl) ?_
  intro b3 w1 hH2
  refine RL.new rfl hH2 (f := fun b => (.pointer (some ⟨b, 0, none⟩))) (run_alloc zero_rel) ?_
  intro b6 w4 hH5
  refine RL.nil ?_
  refine CW.seq ?_
  refine CW.region ?_
  refine RL.val rfl (run_ldRel Tryz.underlying42 rfl rfl rfl (hH5.blk (i := 1) rfl)) ?_
  refine RL.callP rfl hH5 (c_clearanceref03_Points _  _) (run_call1 Tryz.call54 rfl) ?_
  intro w7 hH8
  refine RL.val rfl (run_bld (vs := [(0, I _)]) rfl (built_rel _)) ?_
  refine RL.new rfl hH8 (f := fun b => (.pointer (some ⟨b, 0, none⟩))) (run_alloc zero_rel) ?_
  intro b11 w9 hH10
  refine RL.set hH10 (i := 0) rfl (run_stRel rfl rfl rfl (hH10.blk (i := 0) rfl)) ?_
  intro w12 hH13
  simp only [List.set_cons_zero, List.set_cons_succ] at hH13
  refine RL.nil ?_
  refine CW.seq ?_
  refine CW.seq ?_
  refine CW.region ?_
  refine RL.val rfl (run_assign (v := I 0) rfl) ?_
  refine RL.nil ?_
  refine CW.block ?_
  have hz : (⟨pts r, fun _ => 0#64⟩ : Rl).n = pts r := rfl
  refine CW.loop (G := (Int) × (Rl)) (fun (⟨k, r1⟩ : (Int) × (Rl)) s' w' => (Fr [4, 5, 6, 10, 11, 12, 13, 14, 15, 16, 17, 18, 19, 20, 21, 22, 23, 24, 25, 26, 27, 28, 29, 30, 31, 32, 33, 34] _ s') ∧ (Hp w w' (.blk b11 (.cells (relC r1) 42 (0, 0)) :: _)) ∧ (s' 4 = I k) ∧ (0 ≤ k) ∧ (k ≤ pts r) ∧ (r1 = fillR (pts r) (fun i => rowR r i) k)) (fun (⟨k, r1⟩ : (Int) × (Rl)) => (pts r - k).toNat) ((0, ⟨pts r, fun _ => 0#64⟩)) ⟨Fr.refl _ _, hH13, rfl, (by omega), (by omega), fill_zero _ _⟩ ?_
  rintro ⟨k, r1⟩ sg14 w14 ⟨fr14, hH14, e4_14, h0, hk, hr⟩
  have e1_14 : sg14 1 = .pointer (some ⟨_, _, none⟩) := (fr14 1 rfl).trans rfl
  have e2_14 : sg14 2 = .pointer (some ⟨_, _, none⟩) := (fr14 2 rfl).trans rfl
  have e3_14 : sg14 3 = .pointer (some ⟨_, _, none⟩) := (fr14 3 rfl).trans rfl
  have hn : r1.n = pts r := by rw [hr]; rfl
  refine CW.seq ?_
  refine CW.seq ?_
  refine CW.region ?_
  refine RL.val rfl (run_move e4_14) ?_
  refine RL.val rfl (run_fieldAddr Tryz.underlying42 rfl (off := 0) rfl Tryz.sizeOf3 (by decide) e3_14) ?_
  refine RL.val rfl (run_ld Tryz.underlying3 rfl rfl (hH14.cell (i := 0) rfl (relC_N _))) ?_
  refine RL.val rfl (run_lss rfl rfl) ?_
  refine RL.nil ?_
  refine CW.condP rfl (fun h16 => ?_) (fun h16 => ?_)
  · refine CW.skip ?_
    refine CW.seq ?_
    refine CW.block ?_
    refine CW.seq ?_
    refine CW.region ?_
    refine RL.val rfl (run_assign (v := .slice none 0 0) rfl) ?_
    have hH17 := hH14.nilRow 3 1
    refine RL.nil ?_
    refine CW.seq ?_
    refine CW.seq ?_
    refine CW.region ?_
    refine RL.val rfl (run_assign (v := I 0) rfl) ?_
    refine RL.nil ?_
    refine CW.block ?_
    refine CW.loop (G := (Int) × (List Int) × (Value)) (fun (⟨j, l, v5⟩ : (Int) × (List Int) × (Value)) s' w' => (Fr [5, 6, 16, 17, 18, 19, 20, 21, 22, 23, 24, 25, 26, 27, 28, 29] _ s') ∧ (Hp w w' (.row v5 3 1 (l.length) (l.map I) :: _)) ∧ (s' 5 = v5) ∧ (s' 6 = I j) ∧ (0 ≤ j) ∧ (j ≤ pts r) ∧ (l = aboveTo r k j)) (fun (⟨j, l, v5⟩ : (Int) × (List Int) × (Value)) => (pts r - j).toNat) ((0, [], (.slice none 0 0 : Value))) ⟨Fr.refl _ _, hH17, rfl, rfl, (by omega), (by omega), rfl⟩ ?_
    rintro ⟨j, l, v5⟩ sg18 w18 ⟨fr18, hH18, e5_18, e6_18, j0, j1, hl⟩
    have e1_18 := (fr18 1 rfl).trans e1_14
    have e2_18 := (fr18 2 rfl).trans e2_14
    have e3_18 := (fr18 3 rfl).trans e3_14
    have e4_18 := (fr18 4 rfl).trans e4_14
    have e10_18 : sg18 10 = I _ := (fr18 10 rfl).trans rfl
    have e11_18 : sg18 11 = .pointer (some ⟨_, _, none⟩) := (fr18 11 rfl).trans rfl
    have e12_18 : sg18 12 = I _ := (fr18 12 rfl).trans rfl
    have e13_18 : sg18 13 = B _ := (fr18 13 rfl).trans rfl
    refine CW.seq ?_
    refine CW.seq ?_
    refine CW.region ?_
    refine RL.val rfl (run_move e6_18) ?_
    refine RL.val rfl (run_fieldAddr Tryz.underlying42 rfl (off := 0) rfl Tryz.sizeOf3 (by decide) e3_18) ?_
    refine RL.val rfl (run_ld Tryz.underlying3 rfl rfl (hH18.cell (i := 1) rfl (relC_N _))) ?_
    refine RL.val rfl (run_lss rfl rfl) ?_
    refine RL.nil ?_
    refine CW.condP rfl (fun h20 => ?_) (fun h20 => ?_)
    · refine CW.skip ?_
      refine CW.seq ?_
      refine CW.block ?_
      refine CW.seq ?_
      refine CW.region ?_
      refine RL.val rfl (run_ldRel Tryz.underlying42 rfl rfl e1_18 (hH18.blk (i := 3) rfl)) ?_
      refine RL.val rfl (run_move e4_18) ?_
      refine RL.val rfl (run_move e6_18) ?_
      refine RL.callP rfl hH18 (c_clearanceref03_Has _ _ _  _) (run_call3 Tryz.call61 rfl rfl rfl) ?_
      intro w21 hH22
      refine RL.nil ?_
      refine CW.cond rfl (fun h24 => ?_) (fun h24 => ?_)
      · refine CW.region ?_
        refine RL.val rfl (run_move e5_18) ?_
        refine RL.val rfl (run_move e6_18) ?_
        refine RL.new rfl hH22 (f := fun b => (.slice (some ⟨b, 0, none⟩) 1 1)) (run_mkL Tryz.underlying72 rfl rfl (sz := 1) (vs := [I _]) rfl rfl (by decide) (by decide) rfl rfl) ?_
        intro b27 w25 hH26
        (try simp only [List.flatMap_cons, List.flatMap_nil, clI, clB, clS, clP, clL, clA, List.append_nil, List.cons_append, List.nil_append] at hH26)
        refine RL.app rfl hH26 (i := 1) rfl (hH26.slBlk (i := 0) (n := 1) (sz := 1) rfl rfl (by decide)) rfl rfl Tryz.underlying72 rfl rfl (size := 1) (bytes := 8) rfl rfl rfl (by decide) (by simp [Value.oneCell']) (by have := @above_len r k j; rw [← hl] at this; omega) (by have := @above_len r k j; rw [← hl] at this; simp only [maxLen]; omega) ?_
        intro v28 w29 hH30
        simp only [List.set_cons_zero, List.set_cons_succ] at hH30
        refine RL.val rfl (run_assign (by conv => lhs; whnf)) ?_
        refine RL.nil ?_
        refine CW.region ?_
        refine RL.val rfl (run_move e6_18) ?_
        refine RL.val rfl (run_add rfl rfl (by omega)) ?_
        refine RL.val rfl (run_assign (v := I _) rfl) ?_
        refine RL.nil ?_
        refine ⟨(j + 1, l ++ [j], v28), ?_, (((((((((((((((fr18.u rfl).u rfl).u rfl).u rfl).u rfl).u rfl).u rfl).u rfl).u rfl).u rfl).u rfl).u rfl).u rfl).u rfl).u rfl).u rfl, (Hp.conv (hH30.sub (.cons _ (List.Sublist.refl _))) (by first | rfl | simp)), rfl, (congrArg I (by first | rfl | omega)), ?_, ?_, ?_⟩
        · ((try dsimp only); omega)
        · omega
        · omega
        · first | (rw [hl]; exact above_yes j0 ‹_›) | (rw [hl]; exact above_not j0 ‹_›)
      · refine CW.skip ?_
        refine CW.region ?_
        refine RL.val rfl (run_move e6_18) ?_
        refine RL.val rfl (run_add rfl rfl (by omega)) ?_
        refine RL.val rfl (run_assign (v := I _) rfl) ?_
        refine RL.nil ?_
        refine ⟨(j + 1, l, v5), ?_, ((((((((((fr18.u rfl).u rfl).u rfl).u rfl).u rfl).u rfl).u rfl).u rfl).u rfl).u rfl).u rfl, (Hp.conv hH22 (by first | rfl | simp)), e5_18, (congrArg I (by first | rfl | omega)), ?_, ?_, ?_⟩
        · ((try dsimp only); omega)
        · omega
        · omega
        · first | (rw [hl]; exact above_yes j0 ‹_›) | (rw [hl]; exact above_not j0 ‹_›)
    · refine CW.exit (id := 2) rfl ?_
      refine CW.region ?_
      refine RL.val rfl (run_move e4_18) ?_
      refine RL.val rfl (run_move e5_18) ?_
      refine RL.callP rfl hH18 (c_clearanceref01_Of _ _  _ (hH18.sl (i := 0) rfl)) (run_call1 Tryz.call62 rfl) ?_
      intro w31 hH32
      refine RL.val rfl (run_fieldAddr Tryz.underlying42 rfl (off := 1) rfl Tryz.sizeOf40 (by decide) e3_18) ?_
      refine RL.val rfl (run_indexAddrA Tryz.underlying40 Tryz.sizeOf28 rfl rfl (by first | omega | (dsimp only at *; omega))) ?_
      refine RL.set hH32 (i := 1) rfl (run_st rfl rfl (v := U _) rfl rfl rfl (hH32.blk (i := 1) rfl) (by rw [relC_size]; omega)) ?_
      intro w33 hH34
      simp only [List.set_cons_zero, List.set_cons_succ] at hH34
      rw [relC_put] at hH34
      refine RL.nil ?_
      refine CW.region ?_
      refine RL.val rfl (run_move e4_18) ?_
      refine RL.val rfl (run_add rfl rfl (by omega)) ?_
      refine RL.val rfl (run_assign (v := I _) rfl) ?_
      refine RL.nil ?_
      refine ⟨(k + 1, _), ?_, (((((((((((((((((((fr14.u rfl).u rfl).u rfl).u rfl).u rfl).u rfl).t fr18 rfl)).u rfl).u rfl).u rfl).u rfl).u rfl).u rfl).u rfl).u rfl).u rfl).u rfl).u rfl).u rfl, (hH34.sub (.cons _ (List.Sublist.refl _))), (congrArg I (by first | rfl | omega)), ?_, ?_, ?_⟩
      · ((try dsimp only); omega)
      · omega
      · omega
      · rw [hr]; exact fill_put h0 (by rw [Int.toNat_of_nonneg h0, hl, show j = pts r by omega]; exact above_row ⟨h0, by omega⟩)
  · refine CW.exit (id := 0) rfl ?_
    refine CW.seq ?_
    refine CW.region ?_
    refine RL.val rfl (run_ldRel Tryz.underlying42 rfl rfl e3_14 (hH14.blk (i := 0) rfl)) ?_
    refine RL.set hH14 (i := 1) rfl (run_stRel rfl e2_14 rfl (hH14.blk (i := 1) rfl)) ?_
    intro w35 hH36
    simp only [List.set_cons_zero, List.set_cons_succ] at hH36
    refine RL.nil ?_
    refine CW.ret ?_
    refine outC Tryz.results58 e2_14 hH36 (i := 1) rfl Tryz.underlying42 rfl rfl ⟨?_, hH36.below⟩
    (rw [hr, show k = pts r by omega]; rfl)

theorem c_relate_Closure (r : Rl) (w : World) : Calls Tryz.prog 115 #[.agg (relC r)] w (Pure (.agg (relC (cloR r))) w) := by
  have hp := pts_bd r
  have hn0 : (plainR r).n = pts r := rfl
  refine enter Tryz.func115 rfl Tryz.ntmps115 rfl ?_
  have hH := Hp.start w
  refine CW.seq ?_
  refine CW.region ?_
  refine RL.new rfl hH (f := fun b => (.pointer (some ⟨b, 0, none⟩))) (run_box (v := .agg _) rfl) ?_
  intro b3 w1 hH2
  refine RL.new rfl hH2 (f := fun b => (.pointer (some ⟨b, 0, none⟩))) (run_alloc zero_rel) ?_
  intro b6 w4 hH5
  refine RL.nil ?_
  refine CW.seq ?_
  refine CW.region ?_
  refine RL.val rfl (run_ldRel Tryz.underlying42 rfl rfl rfl (hH5.blk (i := 1) rfl)) ?_
  refine RL.callP rfl hH5 (c_relate_plain _  _) (run_call1 Tryz.call83 rfl) ?_
  intro w7 hH8
  refine RL.new rfl hH8 (f := fun b => (.pointer (some ⟨b, 0, none⟩))) (run_alloc zero_rel) ?_
  intro b11 w9 hH10
  refine RL.set hH10 (i := 0) rfl (run_stRel rfl rfl rfl (hH10.blk (i := 0) rfl)) ?_
  intro w12 hH13
  simp only [List.set_cons_zero, List.set_cons_succ] at hH13
  refine RL.nil ?_
  refine CW.seq ?_
  refine CW.seq ?_
  refine CW.region ?_
  refine RL.val rfl (run_fieldAddr Tryz.underlying42 rfl (off := 0) rfl Tryz.sizeOf3 (by decide) rfl) ?_
  refine RL.val rfl (run_ld Tryz.underlying3 rfl rfl (hH13.cell (i := 0) rfl (relC_N _))) ?_
  refine RL.val rfl (run_move (v := I 0) rfl) ?_
  refine RL.nil ?_
  refine CW.block ?_
  refine CW.loop (G := (Int) × (Rl)) (fun (⟨k, r1⟩ : (Int) × (Rl)) s' w' => (Fr [4, 11, 12, 13, 14, 15, 16, 17, 18, 19, 20, 21, 22, 23] _ s') ∧ (Hp w w' (.blk b11 (.cells (relC r1) 42 (0, 0)) :: _)) ∧ (s' 11 = I k) ∧ (0 ≤ k) ∧ (k ≤ pts r) ∧ (r1 = ⟨pts r, selfTo (plainR r).up k⟩)) (fun (⟨k, r1⟩ : (Int) × (Rl)) => (pts r - k).toNat) ((0, plainR r)) ⟨Fr.refl _ _, hH13, rfl, (by omega), (by omega), self_zero _ _⟩ ?_
  rintro ⟨k, r1⟩ sg14 w14 ⟨fr14, hH14, e11_14, h0, hk, hr⟩
  have e2_14 : sg14 2 = .pointer (some ⟨_, _, none⟩) := (fr14 2 rfl).trans rfl
  have e3_14 : sg14 3 = .pointer (some ⟨_, _, none⟩) := (fr14 3 rfl).trans rfl
  have e10_14 : sg14 10 = I _ := (fr14 10 rfl).trans rfl
  have hn : r1.n = pts r := by rw [hr]
  refine CW.seq ?_
  refine CW.region ?_
  refine RL.val rfl (run_lss e11_14 e10_14) ?_
  refine RL.nil ?_
  refine CW.seq ?_
  refine CW.condP rfl (fun h16 => ?_) (fun h16 => ?_)
  · refine CW.skip ?_
    refine CW.seq ?_
    refine CW.block ?_
    refine CW.seq ?_
    refine CW.region ?_
    refine RL.val rfl (run_move e11_14) ?_
    refine RL.val rfl (run_assign (v := I _) rfl) ?_
    refine RL.nil ?_
    refine CW.region ?_
    refine RL.val rfl (run_move (v := I _) rfl) ?_
    refine RL.val rfl (run_move (v := I _) rfl) ?_
    refine RL.val rfl (run_fieldAddr Tryz.underlying42 rfl (off := 1) rfl Tryz.sizeOf40 (by decide) e3_14) ?_
    refine RL.val rfl (run_indexAddrA Tryz.underlying40 Tryz.sizeOf28 rfl rfl (by first | omega | (dsimp only at *; omega))) ?_
    refine RL.val rfl (run_ld Tryz.underlying28 rfl rfl (hH14.cell (i := 0) rfl (relC_up _ (by omega)))) ?_
    refine RL.val rfl (run_move (v := I _) rfl) ?_
    refine RL.callP rfl hH14 (c_mask_With _ _  _) (run_call2 Tryz.call131 rfl rfl) ?_
    intro w17 hH18
    refine RL.val rfl (run_fieldAddr Tryz.underlying42 rfl (off := 1) rfl Tryz.sizeOf40 (by decide) e3_14) ?_
    refine RL.val rfl (run_indexAddrA Tryz.underlying40 Tryz.sizeOf28 rfl rfl (by first | omega | (dsimp only at *; omega))) ?_
    refine RL.set hH18 (i := 0) rfl (run_st rfl rfl (v := U _) rfl rfl rfl (hH18.blk (i := 0) rfl) (by rw [relC_size]; omega)) ?_
    intro w19 hH20
    simp only [List.set_cons_zero, List.set_cons_succ] at hH20
    rw [relC_put] at hH20
    refine RL.nil ?_
    refine CW.region ?_
    refine RL.val rfl (run_add e11_14 rfl (by omega)) ?_
    refine RL.val rfl (run_move (v := I _) rfl) ?_
    refine RL.nil ?_
    refine ⟨(k + 1, _), ?_, (((((((((((((fr14.u rfl).u rfl).u rfl).u rfl).u rfl).u rfl).u rfl).u rfl).u rfl).u rfl).u rfl).u rfl).u rfl).u rfl, hH20, (congrArg I (by first | rfl | omega)), ?_, ?_, ?_⟩
    · ((try dsimp only); omega)
    · omega
    · omega
    · rw [hr]; exact self_put h0
  · refine CW.exit (id := 0) rfl ?_
    refine CW.seq ?_
    refine CW.seq ?_
    refine CW.region ?_
    refine RL.val rfl (run_fieldAddr Tryz.underlying42 rfl (off := 0) rfl Tryz.sizeOf3 (by decide) e3_14) ?_
    refine RL.val rfl (run_ld Tryz.underlying3 rfl rfl (hH14.cell (i := 0) rfl (relC_N _))) ?_
    refine RL.val rfl (run_move (v := I 0) rfl) ?_
    refine RL.nil ?_
    refine CW.block ?_
    refine CW.loop (G := (Int) × (Rl)) (fun (⟨m, r2⟩ : (Int) × (Rl)) s' w' => (Fr [5, 6, 26, 27, 28, 29, 30, 31, 32, 33, 34, 35, 36, 37, 38, 39, 40, 41, 42, 43, 44, 45, 46, 47, 48, 49, 50, 51, 52] _ s') ∧ (Hp w w' (.blk b11 (.cells (relC r2) 42 (0, 0)) :: _)) ∧ (s' 26 = I m) ∧ (0 ≤ m) ∧ (m ≤ pts r) ∧ (r2 = ⟨pts r, wall (pts r) (selfTo (plainR r).up (pts r)) m.toNat⟩)) (fun (⟨m, r2⟩ : (Int) × (Rl)) => (pts r - m).toNat) ((0, r1)) ⟨Fr.refl _ _, hH14, rfl, (by omega), (by omega), (by rw [hr, show k = pts r by omega]; rfl)⟩ ?_
    rintro ⟨m, r2⟩ sg21 w21 ⟨fr21, hH21, e26_21, m0, m1, hr2⟩
    have e2_21 := (fr21 2 rfl).trans e2_14
    have e3_21 := (fr21 3 rfl).trans e3_14
    have e25_21 : sg21 25 = I _ := (fr21 25 rfl).trans rfl
    have hn2 : r2.n = pts r := by rw [hr2]
    refine CW.seq ?_
    refine CW.region ?_
    refine RL.val rfl (run_lss e26_21 e25_21) ?_
    refine RL.nil ?_
    refine CW.seq ?_
    refine CW.condP rfl (fun h23 => ?_) (fun h23 => ?_)
    · refine CW.skip ?_
      refine CW.seq ?_
      refine CW.block ?_
      refine CW.seq ?_
      refine CW.region ?_
      refine RL.val rfl (run_move e26_21) ?_
      refine RL.val rfl (run_assign (v := I _) rfl) ?_
      refine RL.nil ?_
      refine CW.seq ?_
      refine CW.region ?_
      refine RL.val rfl (run_fieldAddr Tryz.underlying42 rfl (off := 0) rfl Tryz.sizeOf3 (by decide) e3_21) ?_
      refine RL.val rfl (run_ld Tryz.underlying3 rfl rfl (hH21.cell (i := 0) rfl (relC_N _))) ?_
      refine RL.val rfl (run_move (v := I 0) rfl) ?_
      refine RL.nil ?_
      refine CW.block ?_
      refine CW.loop (G := (Int) × (Rl)) (fun (⟨i, r3⟩ : (Int) × (Rl)) s' w' => (Fr [6, 31, 32, 33, 34, 35, 36, 37, 38, 39, 40, 41, 42, 43, 44, 45, 46, 47, 48, 49, 50, 51] _ s') ∧ (Hp w w' (.blk b11 (.cells (relC r3) 42 (0, 0)) :: _)) ∧ (s' 31 = I i) ∧ (0 ≤ i) ∧ (i ≤ pts r) ∧ (r3 = ⟨pts r, passTo m.toNat i r2.up⟩)) (fun (⟨i, r3⟩ : (Int) × (Rl)) => (pts r - i).toNat) ((0, r2)) ⟨Fr.refl _ _, hH21, rfl, (by omega), (by omega), (by rw [hr2]; exact pass_zero _ _ _)⟩ ?_
      rintro ⟨i, r3⟩ sg24 w24 ⟨fr24, hH24, e31_24, i0, i1, hr3⟩
      have e2_24 := (fr24 2 rfl).trans e2_21
      have e3_24 := (fr24 3 rfl).trans e3_21
      have e5_24 : sg24 5 = I _ := (fr24 5 rfl).trans rfl
      have e25_24 := (fr24 25 rfl).trans e25_21
      have e26_24 := (fr24 26 rfl).trans e26_21
      have e27_24 : sg24 27 = B _ := (fr24 27 rfl).trans rfl
      have e28_24 : sg24 28 = I _ := (fr24 28 rfl).trans rfl
      have e29_24 : sg24 29 = .pointer (some ⟨_, _, none⟩) := (fr24 29 rfl).trans rfl
      have e30_24 : sg24 30 = I _ := (fr24 30 rfl).trans rfl
      have hn3 : r3.n = pts r := by rw [hr3]
      refine CW.seq ?_
      refine CW.region ?_
      refine RL.val rfl (run_lss e31_24 e30_24) ?_
      refine RL.nil ?_
      refine CW.seq ?_
      refine CW.condP rfl (fun h26 => ?_) (fun h26 => ?_)
      · refine CW.skip ?_
        refine CW.seq ?_
        refine CW.block ?_
        refine CW.seq ?_
        refine CW.region ?_
        refine RL.val rfl (run_move e31_24) ?_
        refine RL.val rfl (run_assign (v := I _) rfl) ?_
        refine RL.nil ?_
        refine CW.seq ?_
        refine CW.region ?_
        refine RL.val rfl (run_move (v := I _) rfl) ?_
        refine RL.val rfl (run_fieldAddr Tryz.underlying42 rfl (off := 1) rfl Tryz.sizeOf40 (by decide) e3_24) ?_
        refine RL.val rfl (run_indexAddrA Tryz.underlying40 Tryz.sizeOf28 rfl rfl (by first | omega | (dsimp only at *; omega))) ?_
        refine RL.val rfl (run_ld Tryz.underlying28 rfl rfl (hH24.cell (i := 0) rfl (relC_up _ (by omega)))) ?_
        refine RL.val rfl (run_move e5_24) ?_
        refine RL.callP rfl hH24 (c_mask_Has _ _  _) (run_call2 Tryz.call132 rfl rfl) ?_
        intro w27 hH28
        refine RL.nil ?_
        refine CW.cond rfl (fun h30 => ?_) (fun h30 => ?_)
        · refine CW.regionS (by kernel_rfl) hH28 (.cons _ (List.Sublist.refl _)) ?_
          intro w31 hH32
          refine AN.take 0 rfl rfl (by kernel_rfl) (by kernel_rfl) (by kernel_rfl) (hH32.sub (.cons _ (List.Sublist.refl _))) (fun w hS => run_move (v := I _) rfl) ?_
          refine AN.take 1 rfl rfl (by kernel_rfl) (by kernel_rfl) (by kernel_rfl) (hH32.sub (.cons _ (List.Sublist.refl _))) (fun w hS => run_fieldAddr Tryz.underlying42 rfl (off := 1) rfl Tryz.sizeOf40 (by decide) e3_24) ?_
          refine AN.take 2 rfl rfl (by kernel_rfl) (by kernel_rfl) (by kernel_rfl) (hH32.sub (.cons _ (List.Sublist.refl _))) (fun w hS => run_indexAddrA Tryz.underlying40 Tryz.sizeOf28 rfl rfl (by first | omega | (dsimp only at *; omega))) ?_
          refine AN.take 4 rfl rfl (by kernel_rfl) (by kernel_rfl) (by kernel_rfl) (hH32.sub (.cons _ (List.Sublist.refl _))) (fun w hS => run_move e5_24) ?_
          refine AN.take 5 rfl rfl (by kernel_rfl) (by kernel_rfl) (by kernel_rfl) (hH32.sub (.cons _ (List.Sublist.refl _))) (fun w hS => run_fieldAddr Tryz.underlying42 rfl (off := 1) rfl Tryz.sizeOf40 (by decide) e3_24) ?_
          refine AN.take 6 rfl rfl (by kernel_rfl) (by kernel_rfl) (by kernel_rfl) (hH32.sub (.cons _ (List.Sublist.refl _))) (fun w hS => run_indexAddrA Tryz.underlying40 Tryz.sizeOf28 rfl rfl (by first | omega | (dsimp only at *; omega))) ?_
          refine AN.take 9 rfl rfl (by kernel_rfl) (by kernel_rfl) (by kernel_rfl) (hH32.sub (.cons _ (List.Sublist.refl _))) (fun w hS => run_fieldAddr Tryz.underlying42 rfl (off := 1) rfl Tryz.sizeOf40 (by decide) e3_24) ?_
          refine AN.two 3 7 (by kernel_rfl) ?_ ?_
          · refine AO.read rfl gnone rfl hH32 (.cons _ (List.Sublist.refl _)) (run_ld Tryz.underlying28 rfl rfl (hH32.cell (i := 0) rfl (relC_up _ (by omega)))) ?_
            refine AN.one 7 (by kernel_rfl) ?_
            refine AO.read rfl gnone rfl hH32 (.cons _ (List.Sublist.refl _)) (run_ld Tryz.underlying28 rfl rfl (hH32.cell (i := 0) rfl (relC_up _ (by omega)))) ?_
            refine AN.take 8 rfl rfl (by kernel_rfl) (by kernel_rfl) (by kernel_rfl) (hH32.sub (.cons _ (List.Sublist.refl _))) (fun w hS => run_orU rfl rfl) ?_
            refine AN.take 10 rfl rfl (by kernel_rfl) (by kernel_rfl) (by kernel_rfl) (hH32.sub (.cons _ (List.Sublist.refl _))) (fun w hS => run_indexAddrA Tryz.underlying40 Tryz.sizeOf28 rfl rfl (by first | omega | (dsimp only at *; omega))) ?_
            refine AN.one 11 (by kernel_rfl) ?_
            refine AO.set rfl gnone hH32 (j := 0) rfl (.cons _ (List.Sublist.refl _)) (run_st rfl rfl (v := U _) rfl rfl rfl (hH32.blk (i := 0) rfl) (by rw [relC_size]; omega)) ?_
            intro w39 hH40
            simp only [List.set_cons_zero, List.set_cons_succ] at hH40
            rw [relC_put] at hH40
            refine AN.done (by kernel_rfl) ?_
            refine CW.region ?_
            refine RL.val rfl (run_add e31_24 rfl (by omega)) ?_
            refine RL.val rfl (run_move (v := I _) rfl) ?_
            refine RL.nil ?_
            refine ⟨(i + 1, _), ?_, (((((((((((((((((((((fr24.u rfl).u rfl).u rfl).u rfl).u rfl).u rfl).u rfl).u rfl).u rfl).u rfl).u rfl).u rfl).u rfl).u rfl).u rfl).u rfl).u rfl).u rfl).u rfl).u rfl).u rfl).u rfl, hH40, (congrArg I (by first | rfl | omega)), ?_, ?_, ?_⟩
            · ((try dsimp only); omega)
            · omega
            · omega
            · first | (rw [hr3] at *; exact pass_yes m0 i0 ‹_›) | (rw [hr3] at *; exact pass_not ⟨m0, by omega⟩ i0 ‹_›)
          · refine AO.read rfl gnone rfl hH32 (.cons _ (List.Sublist.refl _)) (run_ld Tryz.underlying28 rfl rfl (hH32.cell (i := 0) rfl (relC_up _ (by omega)))) ?_
            refine AN.one 3 (by kernel_rfl) ?_
            refine AO.read rfl gnone rfl hH32 (.cons _ (List.Sublist.refl _)) (run_ld Tryz.underlying28 rfl rfl (hH32.cell (i := 0) rfl (relC_up _ (by omega)))) ?_
            refine AN.take 8 rfl rfl (by kernel_rfl) (by kernel_rfl) (by kernel_rfl) (hH32.sub (.cons _ (List.Sublist.refl _))) (fun w hS => run_orU rfl rfl) ?_
            refine AN.take 10 rfl rfl (by kernel_rfl) (by kernel_rfl) (by kernel_rfl) (hH32.sub (.cons _ (List.Sublist.refl _))) (fun w hS => run_indexAddrA Tryz.underlying40 Tryz.sizeOf28 rfl rfl (by first | omega | (dsimp only at *; omega))) ?_
            refine AN.one 11 (by kernel_rfl) ?_
            refine AO.set rfl gnone hH32 (j := 0) rfl (.cons _ (List.Sublist.refl _)) (run_st rfl rfl (v := U _) rfl rfl rfl (hH32.blk (i := 0) rfl) (by rw [relC_size]; omega)) ?_
            intro w47 hH48
            simp only [List.set_cons_zero, List.set_cons_succ] at hH48
            rw [relC_put] at hH48
            refine AN.done (by kernel_rfl) ?_
            refine CW.region ?_
            refine RL.val rfl (run_add e31_24 rfl (by omega)) ?_
            refine RL.val rfl (run_move (v := I _) rfl) ?_
            refine RL.nil ?_
            refine ⟨(i + 1, _), ?_, (((((((((((((((((((((fr24.u rfl).u rfl).u rfl).u rfl).u rfl).u rfl).u rfl).u rfl).u rfl).u rfl).u rfl).u rfl).u rfl).u rfl).u rfl).u rfl).u rfl).u rfl).u rfl).u rfl).u rfl).u rfl, hH48, (congrArg I (by first | rfl | omega)), ?_, ?_, ?_⟩
            · ((try dsimp only); omega)
            · omega
            · omega
            · first | (rw [hr3] at *; exact pass_yes m0 i0 ‹_›) | (rw [hr3] at *; exact pass_not ⟨m0, by omega⟩ i0 ‹_›)
        · refine CW.skip ?_
          refine CW.region ?_
          refine RL.val rfl (run_add e31_24 rfl (by omega)) ?_
          refine RL.val rfl (run_move (v := I _) rfl) ?_
          refine RL.nil ?_
          refine ⟨(i + 1, _), ?_, ((((((((((fr24.u rfl).u rfl).u rfl).u rfl).u rfl).u rfl).u rfl).u rfl).u rfl).u rfl).u rfl, hH28, (congrArg I (by first | rfl | omega)), ?_, ?_, ?_⟩
          · ((try dsimp only); omega)
          · omega
          · omega
          · first | (rw [hr3] at *; exact pass_yes m0 i0 ‹_›) | (rw [hr3] at *; exact pass_not ⟨m0, by omega⟩ i0 ‹_›)
      · refine CW.exit (id := 4) rfl ?_
        refine CW.region ?_
        refine RL.val rfl (run_add e26_24 rfl (by omega)) ?_
        refine RL.val rfl (run_move (v := I _) rfl) ?_
        refine RL.nil ?_
        refine ⟨(m + 1, _), ?_, ((((((((((fr21.u rfl).u rfl).u rfl).u rfl).u rfl).u rfl).t fr24 rfl)).u rfl).u rfl).u rfl, hH24, (congrArg I (by first | rfl | omega)), ?_, ?_, ?_⟩
        · ((try dsimp only); omega)
        · omega
        · omega
        · rw [hr3, hr2, show i = pts r by omega]; exact wall_next m0
    · refine CW.exit (id := 2) rfl ?_
      refine CW.seq ?_
      refine CW.region ?_
      refine RL.val rfl (run_ldRel Tryz.underlying42 rfl rfl e3_21 (hH21.blk (i := 0) rfl)) ?_
      refine RL.set hH21 (i := 1) rfl (run_stRel rfl e2_21 rfl (hH21.blk (i := 1) rfl)) ?_
      intro w49 hH50
      simp only [List.set_cons_zero, List.set_cons_succ] at hH50
      refine RL.nil ?_
      refine CW.ret ?_
      refine outC Tryz.results115 e2_21 hH50 (i := 1) rfl Tryz.underlying42 rfl rfl ⟨?_, hH50.below⟩
      (rw [hr2, show m = pts r by omega]; rfl)

theorem c_clearanceref03_Reach (r : Rl) (i : Int) (w : World) : Calls Tryz.prog 126 #[.agg (relC r), I i] w (PureRow 3 1 (reachL r i).length ((reachL r i).map I) w) := by
  have hp := pts_bd r
  refine enter Tryz.func126 rfl Tryz.ntmps126 rfl ?_
  have hH := Hp.start w
  refine CW.seq ?_
  refine CW.region ?_
  refine RL.new rfl hH (f := fun b => (.pointer (some ⟨b, 0, none⟩))) (run_box (v := .agg _) rfl) ?_
  intro b3 w1 hH2
  refine RL.val rfl (run_assign (v := .slice none 0 0) rfl) ?_
  have hH4 := hH2.nilRow 3 1
  refine RL.nil ?_
  refine CW.seq ?_
  refine CW.seq ?_
  refine CW.region ?_
  refine RL.val rfl (run_move (v := I _) rfl) ?_
  refine RL.val rfl (run_lss rfl rfl) ?_
  refine RL.val rfl (run_move (v := B _) rfl) ?_
  refine RL.splitP (dj := 10) rfl (fun h6 => ?_) (fun h6 => ?_)
  · refine RL.gF rfl rfl (bT h6) rfl ?_
    refine RL.gF rfl rfl (bT h6) rfl ?_
    refine RL.gF rfl rfl (bT h6) rfl ?_
    refine RL.gF rfl rfl (bT h6) rfl ?_
    refine RL.val rfl (run_pickT (bT h6) (v := B true) rfl) ?_
    refine RL.nil ?_
    refine CW.condT rfl ?_
    refine CW.seq ?_
    refine CW.region ?_
    refine RL.val rfl (run_assign (v := .slice none 0 0) rfl) ?_
    have hH7 := hH4.nilRow 3 1
    refine RL.nil ?_
    refine CW.ret ?_
    exact outR Tryz.results126 rfl hH7 (i := 0) rfl (by first | (rw [reach_nil (by omega)]; rfl) | rw [← hl, bfs_end a0 ‹_›]) (by first | (rw [reach_nil (by omega)]; rfl) | rw [← hl, bfs_end a0 ‹_›])
  · refine RL.gT rfl (bF h6) ?_
    refine RL.val rfl (run_move (v := I _) rfl) ?_
    refine RL.gT rfl (bF h6) ?_
    refine RL.val rfl (run_ldRel Tryz.underlying42 rfl rfl rfl (hH4.blk (i := 1) rfl)) ?_
    refine RL.gT rfl (bF h6) ?_
    refine RL.callP rfl hH4 (c_clearanceref03_Points _  _) (run_call1 Tryz.call54 rfl) ?_
    intro w8 hH9
    refine RL.gT rfl (bF h6) ?_
    refine RL.val rfl (run_geq rfl rfl) ?_
    refine RL.val rfl (run_pickF (bF h6) (v := B _) rfl) ?_
    refine RL.nil ?_
    refine CW.condP rfl (fun h11 => ?_) (fun h11 => ?_)
    · refine CW.seq ?_
      refine CW.region ?_
      refine RL.val rfl (run_assign (v := .slice none 0 0) rfl) ?_
      have hH12 := hH9.nilRow 3 1
      refine RL.nil ?_
      refine CW.ret ?_
      exact outR Tryz.results126 rfl hH12 (i := 0) rfl (by first | (rw [reach_nil (by omega)]; rfl) | rw [← hl, bfs_end a0 ‹_›]) (by first | (rw [reach_nil (by omega)]; rfl) | rw [← hl, bfs_end a0 ‹_›])
    · refine CW.skip ?_
      refine CW.seq ?_
      refine CW.region ?_
      refine RL.val rfl (run_move (v := I _) rfl) ?_
      refine RL.new rfl hH9 (f := fun b => (.slice (some ⟨b, 0, none⟩) 1 1)) (run_mkL Tryz.underlying72 rfl rfl (sz := 1) (vs := [I _]) rfl rfl (by decide) (by decide) rfl rfl) ?_
      intro b15 w13 hH14
      (try simp only [List.flatMap_cons, List.flatMap_nil, clI, clB, clS, clP, clL, clA, List.append_nil, List.cons_append, List.nil_append] at hH14)
      have hH16 := hH14.blkRow 1 1 rfl (by decide)
      refine RL.val rfl (run_assign (by conv => lhs; whnf)) ?_
      refine RL.nil ?_
      refine CW.seq ?_
      refine CW.seq ?_
      refine CW.region ?_
      refine RL.val rfl (run_assign (v := I 0) rfl) ?_
      refine RL.nil ?_
      refine CW.block ?_
      refine CW.loop (G := (Int) × (List Int) × (Value)) (fun (⟨a, l, v5⟩ : (Int) × (List Int) × (Value)) s' w' => (Fr [5, 6, 7, 18, 19, 20, 21, 22, 23, 24, 25, 26, 27, 28, 29, 30, 31, 32, 33, 34, 35, 36, 37, 38, 39, 40, 41, 42, 43, 44, 45, 46] _ s') ∧ (Hp w w' (.row v5 3 1 (l.length) (l.map I) :: _)) ∧ (s' 5 = v5) ∧ (s' 6 = I a) ∧ (0 ≤ a) ∧ (a ≤ l.length) ∧ (Okl r l) ∧ (bfs r (65 - a.toNat) a.toNat l = reachL r i)) (fun (⟨a, l, v5⟩ : (Int) × (List Int) × (Value)) => ((65 : Int) - a).toNat) ((0, [i], (.slice (some ⟨b15, 0, none⟩) 1 1 : Value))) ⟨Fr.refl _ _, hH16, rfl, rfl, (by omega), (by simp), Okl.one (by omega), (by rw [reachL, if_pos (isP_iff.2 (by omega))]; rfl)⟩ ?_
      rintro ⟨a, l, v5⟩ sg17 w17 ⟨fr17, hH17, e5_17, e6_17, a0, a1, hok, hl⟩
      have e2_17 : sg17 2 = .pointer (some ⟨_, _, none⟩) := (fr17 2 rfl).trans rfl
      have e4_17 := (fr17 4 rfl).trans (by conv => lhs; whnf)
      refine CW.seq ?_
      refine CW.seq ?_
      refine CW.region ?_
      refine RL.val rfl (run_move e6_17) ?_
      refine RL.val rfl (run_move e5_17) ?_
      refine RL.val rfl (run_lenSl (hH17.sl (i := 0) rfl) rfl Tryz.underlying72 rfl) ?_
      refine RL.val rfl (run_lss rfl rfl) ?_
      refine RL.nil ?_
      refine CW.condP rfl (fun h19 => ?_) (fun h19 => ?_)
      · refine CW.skip ?_
        refine CW.seq ?_
        refine CW.block ?_
        refine CW.seq ?_
        refine CW.region ?_
        refine RL.val rfl (run_assign (v := I 0) rfl) ?_
        refine RL.nil ?_
        refine CW.block ?_
        refine CW.loop (G := (Int) × (List Int) × (Value)) (fun (⟨b, l2, v5⟩ : (Int) × (List Int) × (Value)) s' w' => (Fr [5, 7, 24, 25, 26, 27, 28, 29, 30, 31, 32, 33, 34, 35, 36, 37, 38, 39, 40, 41, 42, 43, 44, 45, 46] _ s') ∧ (Hp w w' (.row v5 3 1 (l2.length) (l2.map I) :: _)) ∧ (s' 5 = v5) ∧ (s' 7 = I b) ∧ (0 ≤ b) ∧ (b ≤ pts r) ∧ (l2 = scan r (l.getD a.toNat 0) l b.toNat) ∧ (Okl r l2) ∧ (l.length ≤ l2.length) ∧ (l2.getD a.toNat 0 = l.getD a.toNat 0)) (fun (⟨b, l2, v5⟩ : (Int) × (List Int) × (Value)) => (pts r - b).toNat) ((0, l, (v5 : Value))) ⟨Fr.refl _ _, hH17, e5_17, rfl, (by omega), (by omega), rfl, hok, Nat.le_refl _, rfl⟩ ?_
        rintro ⟨b, l2, v5⟩ sg20 w20 ⟨fr20, hH20, e5_20, e7_20, b0, b1, h2, hok2, hle, hget⟩
        have e2_20 := (fr20 2 rfl).trans e2_17
        have e4_20 := (fr20 4 rfl).trans e4_17
        have e6_20 := (fr20 6 rfl).trans e6_17
        have e18_20 : sg20 18 = I _ := (fr20 18 rfl).trans rfl
        have e19_20 := (fr20 19 rfl).trans (by conv => lhs; whnf)
        have e20_20 : sg20 20 = I _ := (fr20 20 rfl).trans rfl
        have e21_20 : sg20 21 = B _ := (fr20 21 rfl).trans rfl
        refine CW.seq ?_
        refine CW.seq ?_
        refine CW.region ?_
        refine RL.val rfl (run_move e7_20) ?_
        refine RL.val rfl (run_ldRel Tryz.underlying42 rfl rfl e2_20 (hH20.blk (i := 2) rfl)) ?_
        refine RL.callP rfl hH20 (c_clearanceref03_Points _  _) (run_call1 Tryz.call54 rfl) ?_
        intro w21 hH22
        refine RL.val rfl (run_lss rfl rfl) ?_
        refine RL.nil ?_
        refine CW.condP rfl (fun h24 => ?_) (fun h24 => ?_)
        · refine CW.skip ?_
          refine CW.seq ?_
          refine CW.block ?_
          refine CW.seq ?_
          refine CW.regionD (by kernel_rfl) hH22 ?_
          intro w25 hH26
          refine AN.take 0 rfl rfl (by kernel_rfl) (by kernel_rfl) (by kernel_rfl) (hH26.sub (List.Sublist.refl _)) (fun w hS => run_ldRel Tryz.underlying42 rfl rfl e2_20 (hS.blk (i := 2) rfl)) ?_
          refine AN.take 1 rfl rfl (by kernel_rfl) (by kernel_rfl) (by kernel_rfl) (hH26.sub (List.Sublist.refl _)) (fun w hS => run_move e5_20) ?_
          refine AN.take 2 rfl rfl (by kernel_rfl) (by kernel_rfl) (by kernel_rfl) (hH26.sub (List.Sublist.refl _)) (fun w hS => run_move e6_20) ?_
          refine AN.take 3 rfl rfl (by kernel_rfl) (by kernel_rfl) (by kernel_rfl) (hH26.sub (List.Sublist.refl _)) (fun w hS => run_indexAddrS (hS.sl (i := 0) rfl) Tryz.underlying72 Tryz.sizeOf3 rfl rfl (by omega)) ?_
          refine AN.take 4 rfl rfl (by kernel_rfl) (by kernel_rfl) (by kernel_rfl) (hH26.sub (List.Sublist.refl _)) (fun w hS => run_ld Tryz.underlying3 rfl rfl ((hS.sl (i := 0) rfl).cell _ _ (map_at (by omega)))) ?_
          refine AN.take 5 rfl rfl (by kernel_rfl) (by kernel_rfl) (by kernel_rfl) (hH26.sub (List.Sublist.refl _)) (fun w hS => run_move e7_20) ?_
          refine AN.one 6 (by kernel_rfl) ?_
          refine AO.callP rfl gnone rfl hH26 (List.Sublist.refl _) (c_clearanceref03_Has r (l2.getD a.toNat 0) b _) (run_call3 Tryz.call61 rfl rfl rfl) ?_
          intro w27 hH28
          refine AN.take 7 rfl rfl (by kernel_rfl) (by kernel_rfl) (by kernel_rfl) (hH28.sub (List.Sublist.refl _)) (fun w hS => run_move (v := B _) rfl) ?_
          refine AN.split (dj := 37) rfl (fun h30 => ?_) (fun h30 => ?_)
          · refine AN.takeG 8 rfl rfl (bR (c := true) h30) rfl (by kernel_rfl) (by kernel_rfl) (by kernel_rfl) (hH28.sub (List.Sublist.refl _)) (fun w hS => run_move e5_20) ?_
            refine AN.takeG 9 rfl rfl (bR (c := true) h30) rfl (by kernel_rfl) (by kernel_rfl) (by kernel_rfl) (hH28.sub (List.Sublist.refl _)) (fun w hS => run_move e7_20) ?_
            refine AN.one 10 (by kernel_rfl) ?_
            refine AO.callP rfl (gsome rfl (bR (c := true) h30)) rfl hH28 (List.Sublist.refl _) (c_clearanceref03_In _ _ _  _ (hH28.sl (i := 0) rfl)) (run_call2 Tryz.call135 rfl rfl) ?_
            intro w31 hH32
            refine AN.takeG 11 rfl rfl (bR (c := true) h30) rfl (by kernel_rfl) (by kernel_rfl) (by kernel_rfl) (hH32.sub (List.Sublist.refl _)) (fun w hS => run_not rfl) ?_
            refine AN.take 12 rfl rfl (by kernel_rfl) (by kernel_rfl) (by kernel_rfl) (hH32.sub (List.Sublist.refl _)) (fun w hS => run_pickT (bR (c := true) h30) (v := B _) rfl) ?_
            refine AN.done (by kernel_rfl) ?_
            refine CW.cond rfl (fun h35 => ?_) (fun h35 => ?_)
            · refine CW.region ?_
              refine RL.val rfl (run_move e5_20) ?_
              refine RL.val rfl (run_move e7_20) ?_
              refine RL.new rfl hH32 (f := fun b => (.slice (some ⟨b, 0, none⟩) 1 1)) (run_mkL Tryz.underlying72 rfl rfl (sz := 1) (vs := [I _]) rfl rfl (by decide) (by decide) rfl rfl) ?_
              intro b38 w36 hH37
              (try simp only [List.flatMap_cons, List.flatMap_nil, clI, clB, clS, clP, clL, clA, List.append_nil, List.cons_append, List.nil_append] at hH37)
              refine RL.app rfl hH37 (i := 1) rfl (hH37.slBlk (i := 0) (n := 1) (sz := 1) rfl rfl (by decide)) rfl rfl Tryz.underlying72 rfl rfl (size := 1) (bytes := 8) rfl rfl rfl (by decide) (by simp [Value.oneCell']) (by have := hok2.len; omega) (by have := hok2.len; simp only [maxLen]; omega) ?_
              intro v39 w40 hH41
              simp only [List.set_cons_zero, List.set_cons_succ] at hH41
              refine RL.val rfl (run_assign (by conv => lhs; whnf)) ?_
              refine RL.nil ?_
              refine CW.region ?_
              refine RL.val rfl (run_move e7_20) ?_
              refine RL.val rfl (run_add rfl rfl (by first | omega | (have := hok.len; omega))) ?_
              refine RL.val rfl (run_assign (v := I _) rfl) ?_
              refine RL.nil ?_
              refine ⟨(b + 1, l2 ++ [b], v39), ?_, ((((((((((((((((((((((((fr20.u rfl).u rfl).u rfl).u rfl).u rfl).u rfl).u rfl).u rfl).u rfl).u rfl).u rfl).u rfl).u rfl).u rfl).u rfl).u rfl).u rfl).u rfl).u rfl).u rfl).u rfl).u rfl).u rfl).u rfl).u rfl, (Hp.conv (hH41.sub (.cons _ (List.Sublist.refl _))) (by first | rfl | simp)), rfl, (congrArg I (by first | rfl | omega)), ?_, ?_, ?_, ?_, ?_, ?_⟩
              · ((try dsimp only); omega)
              · omega
              · omega
              · rw [hget] at *; first | (rw [h2] at *; exact scan_yes b0 ‹_› (nt ‹_›)) | (rw [h2] at *; exact scan_no1 b0 ‹_›) | (rw [h2] at *; exact scan_no2 b0 (nf ‹_›))
              · first | exact hok2 | exact hok2.add ⟨b0, ‹_›⟩ (nt ‹_›)
              · first | exact hle | (simp; omega)
              · first | exact hget | (rw [← hget, List.getD_eq_getElem?_getD, List.getD_eq_getElem?_getD, List.getElem?_append_left (by omega)])
            · refine CW.skip ?_
              refine CW.region ?_
              refine RL.val rfl (run_move e7_20) ?_
              refine RL.val rfl (run_add rfl rfl (by first | omega | (have := hok.len; omega))) ?_
              refine RL.val rfl (run_assign (v := I _) rfl) ?_
              refine RL.nil ?_
              refine ⟨(b + 1, l2, v5), ?_, (((((((((((((((((((fr20.u rfl).u rfl).u rfl).u rfl).u rfl).u rfl).u rfl).u rfl).u rfl).u rfl).u rfl).u rfl).u rfl).u rfl).u rfl).u rfl).u rfl).u rfl).u rfl).u rfl, (Hp.conv hH32 (by first | rfl | simp)), e5_20, (congrArg I (by first | rfl | omega)), ?_, ?_, ?_, ?_, ?_, ?_⟩
              · ((try dsimp only); omega)
              · omega
              · omega
              · rw [hget] at *; first | (rw [h2] at *; exact scan_yes b0 ‹_› (nt ‹_›)) | (rw [h2] at *; exact scan_no1 b0 ‹_›) | (rw [h2] at *; exact scan_no2 b0 (nf ‹_›))
              · first | exact hok2 | exact hok2.add ⟨b0, ‹_›⟩ (nt ‹_›)
              · first | exact hle | (simp; omega)
              · first | exact hget | (rw [← hget, List.getD_eq_getElem?_getD, List.getD_eq_getElem?_getD, List.getElem?_append_left (by omega)])
          · refine AN.skipG 8 rfl rfl (bR (c := false) h30) rfl rfl (by kernel_rfl) (by kernel_rfl) (by kernel_rfl) (hH28.sub (List.Sublist.refl _)) ?_
            refine AN.skipG 9 rfl rfl (bR (c := false) h30) rfl rfl (by kernel_rfl) (by kernel_rfl) (by kernel_rfl) (hH28.sub (List.Sublist.refl _)) ?_
            refine AN.skipG 10 rfl rfl (bR (c := false) h30) rfl rfl (by kernel_rfl) (by kernel_rfl) (by kernel_rfl) (hH28.sub (List.Sublist.refl _)) ?_
            refine AN.skipG 11 rfl rfl (bR (c := false) h30) rfl rfl (by kernel_rfl) (by kernel_rfl) (by kernel_rfl) (hH28.sub (List.Sublist.refl _)) ?_
            refine AN.take 12 rfl rfl (by kernel_rfl) (by kernel_rfl) (by kernel_rfl) (hH28.sub (List.Sublist.refl _)) (fun w hS => run_pickF (bR (c := false) h30) (v := B false) rfl) ?_
            refine AN.done (by kernel_rfl) ?_
            refine CW.condF rfl ?_
            refine CW.skip ?_
            refine CW.region ?_
            refine RL.val rfl (run_move e7_20) ?_
            refine RL.val rfl (run_add rfl rfl (by first | omega | (have := hok.len; omega))) ?_
            refine RL.val rfl (run_assign (v := I _) rfl) ?_
            refine RL.nil ?_
            refine ⟨(b + 1, l2, v5), ?_, (((((((((((((((((((fr20.u rfl).u rfl).u rfl).u rfl).u rfl).u rfl).u rfl).u rfl).u rfl).u rfl).u rfl).u rfl).u rfl).u rfl).u rfl).u rfl).u rfl).u rfl).u rfl).u rfl, (Hp.conv hH28 (by first | rfl | simp)), e5_20, (congrArg I (by first | rfl | omega)), ?_, ?_, ?_, ?_, ?_, ?_⟩
            · ((try dsimp only); omega)
            · omega
            · omega
            · rw [hget] at *; first | (rw [h2] at *; exact scan_yes b0 ‹_› (nt ‹_›)) | (rw [h2] at *; exact scan_no1 b0 ‹_›) | (rw [h2] at *; exact scan_no2 b0 (nf ‹_›))
            · first | exact hok2 | exact hok2.add ⟨b0, ‹_›⟩ (nt ‹_›)
            · first | exact hle | (simp; omega)
            · first | exact hget | (rw [← hget, List.getD_eq_getElem?_getD, List.getD_eq_getElem?_getD, List.getElem?_append_left (by omega)])
        · refine CW.exit (id := 2) rfl ?_
          refine CW.region ?_
          refine RL.val rfl (run_move e6_20) ?_
          refine RL.val rfl (run_add rfl rfl (by first | omega | (have := hok.len; omega))) ?_
          refine RL.val rfl (run_assign (v := I _) rfl) ?_
          refine RL.nil ?_
          refine ⟨(a + 1, l2, v5), ?_, (((((((((((((fr17.u rfl).u rfl).u rfl).u rfl).u rfl).t fr20 rfl)).u rfl).u rfl).u rfl).u rfl).u rfl).u rfl).u rfl, (Hp.conv hH22 (by first | rfl | simp)), e5_20, (congrArg I (by first | rfl | omega)), ?_, ?_, ?_, ?_⟩
          · have := hok.len; (try dsimp only); omega
          · omega
          · omega
          · exact hok2
          · (rw [h2, show b = pts r by omega, ← bfs_step a0 ‹_› hok.len]; exact hl)
      · refine CW.exit (id := 0) rfl ?_
        refine CW.seq ?_
        refine CW.region ?_
        refine RL.val rfl (run_move e5_17) ?_
        refine RL.val rfl (run_assign (by conv => lhs; whnf)) ?_
        refine RL.nil ?_
        refine CW.ret ?_
        exact outR Tryz.results126 rfl hH17 (i := 0) rfl (by first | (rw [reach_nil (by omega)]; rfl) | rw [← hl, bfs_end a0 ‹_›]) (by first | (rw [reach_nil (by omega)]; rfl) | rw [← hl, bfs_end a0 ‹_›])

theorem c_clearanceref03_Closure (r : Rl) (w : World) : Calls Tryz.prog 103 #[.agg (relC r)] w (Pure (.agg (relC (cloR r))) w) := by
  have hp := pts_bd r
  refine enter Tryz.func103 rfl Tryz.ntmps103 rfl ?_
  have hH := Hp.start w
  refine CW.seq ?_
  refine CW.region ?_
  refine RL.new rfl hH (f := fun b => (.pointer (some ⟨b, 0, none⟩))) (run_box (v := .agg _) rfl) ?_
  intro b3 w1 hH2
  refine RL.new rfl hH2 (f := fun b => (.pointer (some ⟨b, 0, none⟩))) (run_alloc zero_rel) ?_
  intro b6 w4 hH5
  refine RL.nil ?_
  refine CW.seq ?_
  refine CW.region ?_
  refine RL.val rfl (run_ldRel Tryz.underlying42 rfl rfl rfl (hH5.blk (i := 1) rfl)) ?_
  refine RL.callP rfl hH5 (c_clearanceref03_Points _  _) (run_call1 Tryz.call54 rfl) ?_
  intro w7 hH8
  refine RL.val rfl (run_bld (vs := [(0, I _)]) rfl (built_rel _)) ?_
  refine RL.new rfl hH8 (f := fun b => (.pointer (some ⟨b, 0, none⟩))) (run_alloc zero_rel) ?_
  intro b11 w9 hH10
  refine RL.set hH10 (i := 0) rfl (run_stRel rfl rfl rfl (hH10.blk (i := 0) rfl)) ?_
  intro w12 hH13
  simp only [List.set_cons_zero, List.set_cons_succ] at hH13
  refine RL.nil ?_
  refine CW.seq ?_
  refine CW.seq ?_
  refine CW.region ?_
  refine RL.val rfl (run_assign (v := I 0) rfl) ?_
  refine RL.nil ?_
  refine CW.block ?_
  have hz : (⟨pts r, fun _ => 0#64⟩ : Rl).n = pts r := rfl
  refine CW.loop (G := (Int) × (Rl)) (fun (⟨k, r1⟩ : (Int) × (Rl)) s' w' => (Fr [4, 8, 9, 10, 11, 12, 13, 14, 15, 16, 17, 18, 19, 20] _ s') ∧ (Hp w w' (.blk b11 (.cells (relC r1) 42 (0, 0)) :: _)) ∧ (s' 4 = I k) ∧ (0 ≤ k) ∧ (k ≤ pts r) ∧ (r1 = fillR (pts r) (fun i => ofl (reachL r i)) k)) (fun (⟨k, r1⟩ : (Int) × (Rl)) => (pts r - k).toNat) ((0, ⟨pts r, fun _ => 0#64⟩)) ⟨Fr.refl _ _, hH13, rfl, (by omega), (by omega), fill_zero _ _⟩ ?_
  rintro ⟨k, r1⟩ sg14 w14 ⟨fr14, hH14, e4_14, h0, hk, hr⟩
  have e1_14 : sg14 1 = .pointer (some ⟨_, _, none⟩) := (fr14 1 rfl).trans rfl
  have e2_14 : sg14 2 = .pointer (some ⟨_, _, none⟩) := (fr14 2 rfl).trans rfl
  have e3_14 : sg14 3 = .pointer (some ⟨_, _, none⟩) := (fr14 3 rfl).trans rfl
  have hn : r1.n = pts r := by rw [hr]; rfl
  refine CW.seq ?_
  refine CW.seq ?_
  refine CW.region ?_
  refine RL.val rfl (run_move e4_14) ?_
  refine RL.val rfl (run_fieldAddr Tryz.underlying42 rfl (off := 0) rfl Tryz.sizeOf3 (by decide) e3_14) ?_
  refine RL.val rfl (run_ld Tryz.underlying3 rfl rfl (hH14.cell (i := 0) rfl (relC_N _))) ?_
  refine RL.val rfl (run_lss rfl rfl) ?_
  refine RL.nil ?_
  refine CW.condP rfl (fun h16 => ?_) (fun h16 => ?_)
  · refine CW.skip ?_
    refine CW.seq ?_
    refine CW.block ?_
    refine CW.region ?_
    refine RL.val rfl (run_move e4_14) ?_
    refine RL.val rfl (run_ldRel Tryz.underlying42 rfl rfl e1_14 (hH14.blk (i := 2) rfl)) ?_
    refine RL.val rfl (run_move e4_14) ?_
    refine RL.callR rfl hH14 (c_clearanceref03_Reach _ _  _) (run_call2 Tryz.call126 rfl rfl) ?_
    intro v19 w17 hH18
    refine RL.callP rfl hH18 (c_clearanceref01_Of _ _  _ (hH18.sl (i := 0) rfl)) (run_call1 Tryz.call62 rfl) ?_
    intro w20 hH21
    refine RL.val rfl (run_fieldAddr Tryz.underlying42 rfl (off := 1) rfl Tryz.sizeOf40 (by decide) e3_14) ?_
    refine RL.val rfl (run_indexAddrA Tryz.underlying40 Tryz.sizeOf28 rfl rfl (by first | omega | (dsimp only at *; omega))) ?_
    refine RL.set hH21 (i := 1) rfl (run_st rfl rfl (v := U _) rfl rfl rfl (hH21.blk (i := 1) rfl) (by rw [relC_size]; omega)) ?_
    intro w22 hH23
    simp only [List.set_cons_zero, List.set_cons_succ] at hH23
    rw [relC_put] at hH23
    refine RL.nil ?_
    refine CW.region ?_
    refine RL.val rfl (run_move e4_14) ?_
    refine RL.val rfl (run_add rfl rfl (by omega)) ?_
    refine RL.val rfl (run_assign (v := I _) rfl) ?_
    refine RL.nil ?_
    refine ⟨(k + 1, _), ?_, (((((((((((((fr14.u rfl).u rfl).u rfl).u rfl).u rfl).u rfl).u rfl).u rfl).u rfl).u rfl).u rfl).u rfl).u rfl).u rfl, (hH23.sub (.cons _ (List.Sublist.refl _))), (congrArg I (by first | rfl | omega)), ?_, ?_, ?_⟩
    · ((try dsimp only); omega)
    · omega
    · omega
    · rw [hr]; exact fill_put h0 (by rw [Int.toNat_of_nonneg h0])
  · refine CW.exit (id := 0) rfl ?_
    refine CW.seq ?_
    refine CW.region ?_
    refine RL.val rfl (run_ldRel Tryz.underlying42 rfl rfl e3_14 (hH14.blk (i := 0) rfl)) ?_
    refine RL.set hH14 (i := 1) rfl (run_stRel rfl e2_14 rfl (hH14.blk (i := 1) rfl)) ?_
    intro w24 hH25
    simp only [List.set_cons_zero, List.set_cons_succ] at hH25
    refine RL.nil ?_
    refine CW.ret ?_
    refine outC Tryz.results103 e2_14 hH25 (i := 1) rfl Tryz.underlying42 rfl rfl ⟨?_, hH25.below⟩
    (rw [hr, show k = pts r by omega, clo_ref])

theorem c_relate_Same (a b : Rl) (w : World) : Calls Tryz.prog 49 #[.agg (relC a), .agg (relC b)] w (Pure (B (decide ((plainR a).eq (plainR b)))) w) := by
  refine enter Tryz.func49 rfl Tryz.ntmps49 rfl ?_
  have hH := Hp.start w
  refine CW.seq ?_
  refine CW.region ?_
  refine RL.new rfl hH (f := fun b => (.pointer (some ⟨b, 0, none⟩))) (run_box (v := .agg _) rfl) ?_
  intro b3 w1 hH2
  refine RL.new rfl hH2 (f := fun b => (.pointer (some ⟨b, 0, none⟩))) (run_box (v := .agg _) rfl) ?_
  intro b6 w4 hH5
  refine RL.val rfl (run_assign (v := B false) rfl) ?_
  refine RL.nil ?_
  refine CW.seq ?_
  refine CW.regionD (by kernel_rfl) hH5 ?_
  intro w7 hH8
  refine AN.take 0 rfl rfl (by kernel_rfl) (by kernel_rfl) (by kernel_rfl) (hH8.sub (List.Sublist.refl _)) (fun w hS => run_ldRel Tryz.underlying42 rfl rfl rfl (hS.blk (i := 1) rfl)) ?_
  refine AN.take 2 rfl rfl (by kernel_rfl) (by kernel_rfl) (by kernel_rfl) (hH8.sub (List.Sublist.refl _)) (fun w hS => run_ldRel Tryz.underlying42 rfl rfl rfl (hS.blk (i := 0) rfl)) ?_
  refine AN.one 1 (by kernel_rfl) ?_
  refine AO.callP rfl gnone rfl hH8 (List.Sublist.refl _) (c_relate_plain _  _) (run_call1 Tryz.call83 rfl) ?_
  intro w9 hH10
  refine AN.one 3 (by kernel_rfl) ?_
  refine AO.callP rfl gnone rfl hH10 (List.Sublist.refl _) (c_relate_plain _  _) (run_call1 Tryz.call83 rfl) ?_
  intro w11 hH12
  refine AN.take 4 rfl rfl (by kernel_rfl) (by kernel_rfl) (by kernel_rfl) (hH12.sub (List.Sublist.refl _)) (fun w hS => run_eqlRel relT_fact rfl rfl) ?_
  refine AN.take 5 rfl rfl (by kernel_rfl) (by kernel_rfl) (by kernel_rfl) (hH12.sub (List.Sublist.refl _)) (fun w hS => run_assign (v := B _) rfl) ?_
  refine AN.done (by kernel_rfl) ?_
  refine CW.ret ?_
  refine outP1 Tryz.results49 (congrArg B ?_) hH12.below
  rfl

theorem c_clearanceref03_Same (a b : Rl) (w : World) : Calls Tryz.prog 30 #[.agg (relC a), .agg (relC b)] w (Pure (B (decide ((plainR a).eq (plainR b)))) w) := by
  refine enter Tryz.func30 rfl Tryz.ntmps30 rfl ?_
  have hH := Hp.start w
  refine CW.seq ?_
  refine CW.region ?_
  refine RL.new rfl hH (f := fun b => (.pointer (some ⟨b, 0, none⟩))) (run_box (v := .agg _) rfl) ?_
  intro b3 w1 hH2
  refine RL.new rfl hH2 (f := fun b => (.pointer (some ⟨b, 0, none⟩))) (run_box (v := .agg _) rfl) ?_
  intro b6 w4 hH5
  refine RL.val rfl (run_assign (v := B false) rfl) ?_
  refine RL.nil ?_
  refine CW.seq ?_
  refine CW.regionD (by kernel_rfl) hH5 ?_
  intro w7 hH8
  refine AN.take 0 rfl rfl (by kernel_rfl) (by kernel_rfl) (by kernel_rfl) (hH8.sub (List.Sublist.refl _)) (fun w hS => run_ldRel Tryz.underlying42 rfl rfl rfl (hS.blk (i := 1) rfl)) ?_
  refine AN.take 2 rfl rfl (by kernel_rfl) (by kernel_rfl) (by kernel_rfl) (hH8.sub (List.Sublist.refl _)) (fun w hS => run_ldRel Tryz.underlying42 rfl rfl rfl (hS.blk (i := 0) rfl)) ?_
  refine AN.one 1 (by kernel_rfl) ?_
  refine AO.callP rfl gnone rfl hH8 (List.Sublist.refl _) (c_clearanceref03_Plain _  _) (run_call1 Tryz.call58 rfl) ?_
  intro w9 hH10
  refine AN.one 3 (by kernel_rfl) ?_
  refine AO.callP rfl gnone rfl hH10 (List.Sublist.refl _) (c_clearanceref03_Plain _  _) (run_call1 Tryz.call58 rfl) ?_
  intro w11 hH12
  refine AN.take 4 rfl rfl (by kernel_rfl) (by kernel_rfl) (by kernel_rfl) (hH12.sub (List.Sublist.refl _)) (fun w hS => run_eqlRel relT_fact rfl rfl) ?_
  refine AN.take 5 rfl rfl (by kernel_rfl) (by kernel_rfl) (by kernel_rfl) (hH12.sub (List.Sublist.refl _)) (fun w hS => run_assign (v := B _) rfl) ?_
  refine AN.done (by kernel_rfl) ?_
  refine CW.ret ?_
  refine outP1 Tryz.results30 (congrArg B ?_) hH12.below
  rfl

theorem c_relate_Closed (r : Rl) (w : World) : Calls Tryz.prog 84 #[.agg (relC r)] w (Pure (B (decide ((plainR r).eq (cloR r)))) w) := by
  refine enter Tryz.func84 rfl Tryz.ntmps84 rfl ?_
  have hH := Hp.start w
  refine CW.seq ?_
  refine CW.region ?_
  refine RL.new rfl hH (f := fun b => (.pointer (some ⟨b, 0, none⟩))) (run_box (v := .agg _) rfl) ?_
  intro b3 w1 hH2
  refine RL.val rfl (run_assign (v := B false) rfl) ?_
  refine RL.nil ?_
  refine CW.seq ?_
  refine CW.regionD (by kernel_rfl) hH2 ?_
  intro w4 hH5
  refine AN.take 0 rfl rfl (by kernel_rfl) (by kernel_rfl) (by kernel_rfl) (hH5.sub (List.Sublist.refl _)) (fun w hS => run_ldRel Tryz.underlying42 rfl rfl rfl (hS.blk (i := 0) rfl)) ?_
  refine AN.take 2 rfl rfl (by kernel_rfl) (by kernel_rfl) (by kernel_rfl) (hH5.sub (List.Sublist.refl _)) (fun w hS => run_ldRel Tryz.underlying42 rfl rfl rfl (hS.blk (i := 0) rfl)) ?_
  refine AN.one 1 (by kernel_rfl) ?_
  refine AO.callP rfl gnone rfl hH5 (List.Sublist.refl _) (c_relate_plain _  _) (run_call1 Tryz.call83 rfl) ?_
  intro w6 hH7
  refine AN.one 3 (by kernel_rfl) ?_
  refine AO.callP rfl gnone rfl hH7 (List.Sublist.refl _) (c_relate_Closure _  _) (run_call1 Tryz.call115 rfl) ?_
  intro w8 hH9
  refine AN.take 4 rfl rfl (by kernel_rfl) (by kernel_rfl) (by kernel_rfl) (hH9.sub (List.Sublist.refl _)) (fun w hS => run_eqlRel relT_fact rfl rfl) ?_
  refine AN.take 5 rfl rfl (by kernel_rfl) (by kernel_rfl) (by kernel_rfl) (hH9.sub (List.Sublist.refl _)) (fun w hS => run_assign (v := B _) rfl) ?_
  refine AN.done (by kernel_rfl) ?_
  refine CW.ret ?_
  refine outP1 Tryz.results84 (congrArg B ?_) hH9.below
  rfl

theorem c_clearanceref03_Closed (r : Rl) (w : World) : Calls Tryz.prog 89 #[.agg (relC r)] w (Pure (B (decide ((plainR r).eq (cloR r)))) w) := by
  refine enter Tryz.func89 rfl Tryz.ntmps89 rfl ?_
  have hH := Hp.start w
  refine CW.seq ?_
  refine CW.region ?_
  refine RL.new rfl hH (f := fun b => (.pointer (some ⟨b, 0, none⟩))) (run_box (v := .agg _) rfl) ?_
  intro b3 w1 hH2
  refine RL.val rfl (run_assign (v := B false) rfl) ?_
  refine RL.nil ?_
  refine CW.seq ?_
  refine CW.regionD (by kernel_rfl) hH2 ?_
  intro w4 hH5
  refine AN.take 0 rfl rfl (by kernel_rfl) (by kernel_rfl) (by kernel_rfl) (hH5.sub (List.Sublist.refl _)) (fun w hS => run_ldRel Tryz.underlying42 rfl rfl rfl (hS.blk (i := 0) rfl)) ?_
  refine AN.take 1 rfl rfl (by kernel_rfl) (by kernel_rfl) (by kernel_rfl) (hH5.sub (List.Sublist.refl _)) (fun w hS => run_ldRel Tryz.underlying42 rfl rfl rfl (hS.blk (i := 0) rfl)) ?_
  refine AN.one 2 (by kernel_rfl) ?_
  refine AO.callP rfl gnone rfl hH5 (List.Sublist.refl _) (c_clearanceref03_Closure _  _) (run_call1 Tryz.call103 rfl) ?_
  intro w6 hH7
  refine AN.one 3 (by kernel_rfl) ?_
  refine AO.callP rfl gnone rfl hH7 (List.Sublist.refl _) (c_clearanceref03_Same _ _  _) (run_call2 Tryz.call30 rfl rfl) ?_
  intro w8 hH9
  refine AN.take 4 rfl rfl (by kernel_rfl) (by kernel_rfl) (by kernel_rfl) (hH9.sub (List.Sublist.refl _)) (fun w hS => run_assign (v := B _) rfl) ?_
  refine AN.done (by kernel_rfl) ?_
  refine CW.ret ?_
  refine outP1 Tryz.results89 (congrArg B ?_) hH9.below
  rw [plain_clo]

theorem c_relate_New (n : Int) (w : World) : Calls Tryz.prog 106 #[I n] w (Pure (.agg (relC (newR n))) w) := by
  refine enter Tryz.func106 rfl Tryz.ntmps106 rfl ?_
  have hH := Hp.start w
  refine CW.seq ?_
  refine CW.region ?_
  refine RL.new rfl hH (f := fun b => (.pointer (some ⟨b, 0, none⟩))) (run_alloc zero_rel) ?_
  intro b3 w1 hH2
  refine RL.nil ?_
  refine CW.seq ?_
  refine CW.region ?_
  refine RL.val rfl (run_move (v := I _) rfl) ?_
  refine RL.val rfl (run_bld (vs := [(0, I _)]) rfl (built_rel _)) ?_
  refine RL.callP rfl hH2 (c_relate_points _  _) (run_call1 Tryz.call100 rfl) ?_
  intro w4 hH5
  refine RL.val rfl (run_bld (vs := [(0, I _)]) rfl (built_rel _)) ?_
  refine RL.set hH5 (i := 0) rfl (run_stRel rfl rfl rfl (hH5.blk (i := 0) rfl)) ?_
  intro w6 hH7
  simp only [List.set_cons_zero, List.set_cons_succ] at hH7
  refine RL.nil ?_
  refine CW.ret ?_
  refine outC Tryz.results106 rfl hH7 (i := 0) rfl Tryz.underlying42 rfl rfl ⟨?_, hH7.below⟩
  rfl

theorem c_relate_mutual (r : Rl) (i : Int) (w : World) (hT : Tab w) : Calls Tryz.prog 116 #[.agg (relC r), I i] w (Pure (U (mutualR r i)) w) := by
  refine enter Tryz.func116 rfl Tryz.ntmps116 rfl ?_
  have hH := Hp.start w
  refine CW.seq ?_
  refine CW.region ?_
  refine RL.new rfl hH (f := fun b => (.pointer (some ⟨b, 0, none⟩))) (run_box (v := .agg _) rfl) ?_
  intro b3 w1 hH2
  refine RL.val rfl (run_assign (v := U 0#64) rfl) ?_
  refine RL.nil ?_
  refine CW.seq ?_
  refine CW.region ?_
  refine RL.val rfl (run_move (v := I _) rfl) ?_
  refine RL.new rfl hH2 (f := fun b => (.slice (some ⟨b, 0, none⟩) 1 1)) (run_mkL Tryz.underlying72 rfl rfl (sz := 1) (vs := [I _]) rfl rfl (by decide) (by decide) rfl rfl) ?_
  intro b6 w4 hH5
  (try simp only [List.flatMap_cons, List.flatMap_nil, clI, clB, clS, clP, clL, clA, List.append_nil, List.cons_append, List.nil_append] at hH5)
  refine RL.callP rfl hH5 (c_mask_Of _ [i] _ (hH5.slBlk (i := 0) (n := 1) (sz := 1) rfl rfl (by decide))) (run_call1 Tryz.call117 rfl) ?_
  intro w7 hH8
  refine RL.val rfl (run_assign (v := U _) rfl) ?_
  refine RL.nil ?_
  refine CW.seq ?_
  refine CW.regionD (by kernel_rfl) hH8 ?_
  intro w9 hH10
  refine AN.take 0 rfl rfl (by kernel_rfl) (by kernel_rfl) (by kernel_rfl) (hH10.sub (List.Sublist.refl _)) (fun w hS => run_ldRel Tryz.underlying42 rfl rfl rfl (hS.blk (i := 1) rfl)) ?_
  refine AN.take 1 rfl rfl (by kernel_rfl) (by kernel_rfl) (by kernel_rfl) (hH10.sub (List.Sublist.refl _)) (fun w hS => run_move (v := U _) rfl) ?_
  refine AN.take 3 rfl rfl (by kernel_rfl) (by kernel_rfl) (by kernel_rfl) (hH10.sub (List.Sublist.refl _)) (fun w hS => run_ldRel Tryz.underlying42 rfl rfl rfl (hS.blk (i := 1) rfl)) ?_
  refine AN.take 4 rfl rfl (by kernel_rfl) (by kernel_rfl) (by kernel_rfl) (hH10.sub (List.Sublist.refl _)) (fun w hS => run_move (v := U _) rfl) ?_
  refine AN.one 2 (by kernel_rfl) ?_
  refine AO.callP rfl gnone rfl hH10 (List.Sublist.refl _) (c_relate_Up _ _  _ (hT.hp hH10)) (run_call2 Tryz.call118 rfl rfl) ?_
  intro w11 hH12
  refine AN.one 5 (by kernel_rfl) ?_
  refine AO.callP rfl gnone rfl hH12 (List.Sublist.refl _) (c_relate_Down _ _  _) (run_call2 Tryz.call120 rfl rfl) ?_
  intro w13 hH14
  refine AN.take 6 rfl rfl (by kernel_rfl) (by kernel_rfl) (by kernel_rfl) (hH14.sub (List.Sublist.refl _)) (fun w hS => run_andU rfl rfl) ?_
  refine AN.take 7 rfl rfl (by kernel_rfl) (by kernel_rfl) (by kernel_rfl) (hH14.sub (List.Sublist.refl _)) (fun w hS => run_assign (v := U _) rfl) ?_
  refine AN.done (by kernel_rfl) ?_
  refine CW.ret ?_
  refine outP1 Tryz.results116 (congrArg U ?_) hH14.below
  rfl

theorem c_relate_Order (r : Rl) (w : World) (hT : Tab w) : Calls Tryz.prog 85 #[.agg (relC r)] w (Pure (B (orderB r)) w) := by
  have hp := pts_bd r
  refine enter Tryz.func85 rfl Tryz.ntmps85 rfl ?_
  have hH := Hp.start w
  refine CW.seq ?_
  refine CW.region ?_
  refine RL.new rfl hH (f := fun b => (.pointer (some ⟨b, 0, none⟩))) (run_box (v := .agg _) rfl) ?_
  intro b3 w1 hH2
  refine RL.val rfl (run_assign (v := B false) rfl) ?_
  refine RL.nil ?_
  refine CW.seq ?_
  refine CW.seq ?_
  refine CW.region ?_
  refine RL.val rfl (run_ldRel Tryz.underlying42 rfl rfl rfl (hH2.blk (i := 0) rfl)) ?_
  refine RL.callP rfl hH2 (c_relate_Closed _  _) (run_call1 Tryz.call84 rfl) ?_
  intro w4 hH5
  refine RL.val rfl (run_notP rfl) ?_
  refine RL.nil ?_
  refine CW.condP rfl (fun h9 => ?_) (fun h9 => ?_)
  · refine CW.seq ?_
    refine CW.region ?_
    refine RL.val rfl (run_assign (v := B false) rfl) ?_
    refine RL.nil ?_
    refine CW.ret ?_
    refine outP1 Tryz.results85 (congrArg B ?_) hH5.below
    exact (order_no0 ‹_›).symm
  · refine CW.skip ?_
    refine CW.seq ?_
    refine CW.seq ?_
    refine CW.region ?_
    refine RL.val rfl (run_ldRel Tryz.underlying42 rfl rfl rfl (hH5.blk (i := 0) rfl)) ?_
    refine RL.callP rfl hH5 (c_relate_points _  _) (run_call1 Tryz.call100 rfl) ?_
    intro w10 hH11
    refine RL.val rfl (run_move (v := I 0) rfl) ?_
    refine RL.nil ?_
    refine CW.block ?_
    have hc := Decidable.of_not_not ‹¬ ¬ (plainR r).eq (cloR r)›
    refine CW.loop (G := (Int)) (fun (k : Int) s' w' => (Fr [2, 3, 9, 10, 11, 12, 13, 14, 15, 16, 17, 18, 19] _ s') ∧ (Hp w w' _) ∧ (s' 9 = I k) ∧ (0 ≤ k) ∧ (k ≤ pts r) ∧ (∀ j : Int, 0 ≤ j → j < k → mutualR r j = ofl [j])) (fun (k : Int) => (pts r - k).toNat) (0) ⟨Fr.refl _ _, hH11, rfl, (by omega), (by omega), fun j a b => absurd b (by omega)⟩ ?_
    rintro k sg12 w12 ⟨fr12, hH12, e9_12, h0, hk, hf⟩
    have e1_12 : sg12 1 = .pointer (some ⟨_, _, none⟩) := (fr12 1 rfl).trans rfl
    have e8_12 : sg12 8 = I _ := (fr12 8 rfl).trans rfl
    refine CW.seq ?_
    refine CW.region ?_
    refine RL.val rfl (run_lss e9_12 e8_12) ?_
    refine RL.nil ?_
    refine CW.seq ?_
    refine CW.condP rfl (fun h14 => ?_) (fun h14 => ?_)
    · refine CW.skip ?_
      refine CW.seq ?_
      refine CW.block ?_
      refine CW.seq ?_
      refine CW.region ?_
      refine RL.val rfl (run_move e9_12) ?_
      refine RL.val rfl (run_assign (v := I _) rfl) ?_
      refine RL.nil ?_
      refine CW.seq ?_
      refine CW.region ?_
      refine RL.val rfl (run_ldRel Tryz.underlying42 rfl rfl e1_12 (hH12.blk (i := 0) rfl)) ?_
      refine RL.val rfl (run_move (v := I _) rfl) ?_
      refine RL.callP rfl hH12 (c_relate_mutual _ _  _ (hT.hp hH12)) (run_call2 Tryz.call116 rfl rfl) ?_
      intro w15 hH16
      refine RL.val rfl (run_move (v := I _) rfl) ?_
      refine RL.new rfl hH16 (f := fun b => (.slice (some ⟨b, 0, none⟩) 1 1)) (run_mkL Tryz.underlying72 rfl rfl (sz := 1) (vs := [I _]) rfl rfl (by decide) (by decide) rfl rfl) ?_
      intro b19 w17 hH18
      (try simp only [List.flatMap_cons, List.flatMap_nil, clI, clB, clS, clP, clL, clA, List.append_nil, List.cons_append, List.nil_append] at hH18)
      refine RL.callP rfl hH18 (c_mask_Of _ [k] _ (hH18.slBlk (i := 0) (n := 1) (sz := 1) rfl rfl (by decide))) (run_call1 Tryz.call117 rfl) ?_
      intro w20 hH21
      refine RL.val rfl (run_neqU rfl rfl) ?_
      refine RL.nil ?_
      refine CW.condP rfl (fun h23 => ?_) (fun h23 => ?_)
      · refine CW.seq ?_
        refine CW.region ?_
        refine RL.val rfl (run_assign (v := B false) rfl) ?_
        refine RL.nil ?_
        refine CW.ret ?_
        refine outP1 Tryz.results85 (congrArg B ?_) hH21.below
        exact (order_no hc ⟨h0, by omega⟩ ‹_›).symm
      · refine CW.skip ?_
        refine CW.region ?_
        refine RL.val rfl (run_add e9_12 rfl (by omega)) ?_
        refine RL.val rfl (run_move (v := I _) rfl) ?_
        refine RL.nil ?_
        refine ⟨k + 1, ?_, (((((((((((fr12.u rfl).u rfl).u rfl).u rfl).u rfl).u rfl).u rfl).u rfl).u rfl).u rfl).u rfl).u rfl, (hH21.sub (.cons _ (List.Sublist.refl _))), (congrArg I (by first | rfl | omega)), ?_, ?_, ?_⟩
        · ((try dsimp only); omega)
        · omega
        · omega
        · exact fun j a b => if e : j = k then e ▸ Decidable.of_not_not ‹_› else hf j a (by omega)
    · refine CW.exit (id := 0) rfl ?_
      refine CW.seq ?_
      refine CW.region ?_
      refine RL.val rfl (run_assign (v := B true) rfl) ?_
      refine RL.nil ?_
      refine CW.ret ?_
      refine outP1 Tryz.results85 (congrArg B ?_) hH12.below
      exact (order_yes hc fun j a b => hf j a (by omega)).symm

theorem c_relate_Long (r : Rl) (w : World) (hT : Tab w) : Calls Tryz.prog 68 #[.agg (relC r)] w (Pure (.tuple #[I (longV r).1, B (longV r).2]) w) := by
  have hp := pts_bd r
  refine enter Tryz.func68 rfl Tryz.ntmps68 rfl ?_
  have hH := Hp.start w
  refine CW.seq ?_
  refine CW.region ?_
  refine RL.new rfl hH (f := fun b => (.pointer (some ⟨b, 0, none⟩))) (run_box (v := .agg _) rfl) ?_
  intro b3 w1 hH2
  refine RL.val rfl (run_assign (v := I 0) rfl) ?_
  refine RL.val rfl (run_assign (v := B false) rfl) ?_
  refine RL.nil ?_
  refine CW.seq ?_
  refine CW.seq ?_
  refine CW.region ?_
  refine RL.val rfl (run_ldRel Tryz.underlying42 rfl rfl rfl (hH2.blk (i := 0) rfl)) ?_
  refine RL.callP rfl hH2 (c_relate_Order _  _ (hT.hp hH2)) (run_call1 Tryz.call85 rfl) ?_
  intro w4 hH5
  refine RL.val rfl (run_not rfl) ?_
  refine RL.nil ?_
  refine CW.cond rfl (fun h8 => ?_) (fun h8 => ?_)
  · refine CW.seq ?_
    refine CW.region ?_
    refine RL.val rfl (run_assign (v := I 0) rfl) ?_
    refine RL.val rfl (run_assign (v := B false) rfl) ?_
    refine RL.nil ?_
    refine CW.ret ?_
    have hord : orderB r = false := nt ‹_›
    refine outP2 Tryz.results68 (congrArg I ?_) (congrArg B ?_) hH5.below <;> rw [longV, hord] <;> rfl
  · refine CW.skip ?_
    refine CW.seq ?_
    refine CW.region ?_
    refine RL.val rfl (run_ldRel Tryz.underlying42 rfl rfl rfl (hH5.blk (i := 0) rfl)) ?_
    refine RL.callP rfl hH5 (c_relate_points _  _) (run_call1 Tryz.call100 rfl) ?_
    intro w9 hH10
    refine RL.callP rfl hH10 (c_mask_Below _  _) (run_call1 Tryz.call64 rfl) ?_
    intro w11 hH12
    refine RL.val rfl (run_assign (v := U _) rfl) ?_
    refine RL.nil ?_
    refine CW.seq ?_
    refine CW.region ?_
    refine RL.val rfl (run_assign (v := I 0) rfl) ?_
    refine RL.nil ?_
    refine CW.block ?_
    have hord : orderB r = true := nf ‹_›
    refine CW.loop (G := (Int) × (BitVec 64)) (fun (⟨k, s⟩ : (Int) × (BitVec 64)) s' w' => (Fr [2, 3, 4, 5, 6, 8, 15, 16, 17, 18, 19, 20, 21, 22, 23, 24, 25, 26, 27, 28, 29, 30, 31, 32, 33, 34, 35, 36] _ s') ∧ (Hp w w' _) ∧ (s' 4 = U s) ∧ (s' 5 = I k) ∧ (0 ≤ k) ∧ ((lst s).length + k ≤ 64) ∧ (∀ j : Nat, s.getLsbD j = true → (j : Int) < pts r) ∧ (longF r (65 - k.toNat) s k = longF r 65 (below (pts r)) 0)) (fun (⟨k, s⟩ : (Int) × (BitVec 64)) => ((65 : Int) - k).toNat) ((0, below (pts r))) ⟨Fr.refl _ _, hH12, rfl, rfl, (by omega), (by have := lst_len (below (pts r)); omega), below_in, rfl⟩ ?_
    rintro ⟨k, s⟩ sg13 w13 ⟨fr13, hH13, e4_13, e5_13, k0, hl, hs, hF⟩
    have e1_13 : sg13 1 = .pointer (some ⟨_, _, none⟩) := (fr13 1 rfl).trans rfl
    refine CW.block ?_
    refine CW.seq ?_
    refine CW.region ?_
    refine RL.val rfl (run_assign (v := U 0#64) rfl) ?_
    refine RL.nil ?_
    refine CW.seq ?_
    refine CW.seq ?_
    refine CW.region ?_
    refine RL.val rfl (run_move e4_13) ?_
    refine RL.callR rfl hH13 (c_mask_List _  _ (hT.hp hH13)) (run_call1 Tryz.call101 rfl) ?_
    intro v16 w14 hH15
    refine RL.val rfl (run_lenSl (hH15.sl (i := 0) rfl) rfl Tryz.underlying72 rfl) ?_
    refine RL.val rfl (run_move (v := I 0) rfl) ?_
    refine RL.nil ?_
    refine CW.block ?_
    have hll := lst_len s
    refine CW.loop (G := (Int)) (fun (j : Int) s' w' => (Fr [6, 8, 18, 19, 20, 21, 22, 23, 24, 25, 26, 27] _ s') ∧ (Hp w w' _) ∧ (s' 6 = U (orAll (strictR r) ((lst s).take j.toNat))) ∧ (s' 18 = I j) ∧ (0 ≤ j) ∧ (j ≤ (lst s).length)) (fun (j : Int) => ((lst s).length - j).toNat) (0) ⟨Fr.refl _ _, hH15, (congrArg U (by simp [orAll])), rfl, (by omega), (by omega)⟩ ?_
    rintro j sg17 w17 ⟨fr17, hH17, e6_17, e18_17, j0, j1⟩
    have e1_17 := (fr17 1 rfl).trans e1_13
    have e4_17 := (fr17 4 rfl).trans e4_13
    have e5_17 := (fr17 5 rfl).trans e5_13
    have e15_17 : sg17 15 = U _ := (fr17 15 rfl).trans rfl
    have e16_17 := (fr17 16 rfl).trans (by conv => lhs; whnf)
    have e17_17 : sg17 17 = I _ := (fr17 17 rfl).trans rfl
    refine CW.seq ?_
    refine CW.region ?_
    refine RL.val rfl (run_lss e18_17 e17_17) ?_
    refine RL.nil ?_
    refine CW.seq ?_
    refine CW.condP rfl (fun h19 => ?_) (fun h19 => ?_)
    · refine CW.skip ?_
      refine CW.seq ?_
      refine CW.block ?_
      refine CW.seq ?_
      refine CW.region ?_
      refine RL.val rfl (run_indexAddrS (hH17.sl (i := 0) rfl) Tryz.underlying72 Tryz.sizeOf3 e16_17 e18_17 (by omega)) ?_
      refine RL.val rfl (run_ld Tryz.underlying3 rfl rfl ((hH17.sl (i := 0) rfl).cell _ _ (map_at (by omega)))) ?_
      refine RL.val rfl (run_assign (v := I _) rfl) ?_
      refine RL.nil ?_
      refine CW.region ?_
      refine RL.val rfl (run_move e6_17) ?_
      refine RL.val rfl (run_ldRel Tryz.underlying42 rfl rfl e1_17 (hH17.blk (i := 1) rfl)) ?_
      refine RL.val rfl (run_move (v := I _) rfl) ?_
      refine RL.callP rfl hH17 (c_relate_strict _ _ (by first | assumption | omega | (dsimp only at *; omega) | exact lst_at_bd (by assumption) (by assumption) | exact low_bd (lst_at (by assumption) (by assumption))) _) (run_call2 Tryz.call102 rfl rfl) ?_
      intro w20 hH21
      refine RL.val rfl (run_orU rfl rfl) ?_
      refine RL.val rfl (run_assign (v := U _) rfl) ?_
      refine RL.nil ?_
      refine CW.region ?_
      refine RL.val rfl (run_add e18_17 rfl (by omega)) ?_
      refine RL.val rfl (run_move (v := I _) rfl) ?_
      refine RL.nil ?_
      refine ⟨j + 1, ?_, (((((((((((fr17.u rfl).u rfl).u rfl).u rfl).u rfl).u rfl).u rfl).u rfl).u rfl).u rfl).u rfl).u rfl, hH21, (congrArg U (orAll_next j0 ‹_›)), (congrArg I (by first | rfl | omega)), ?_, ?_⟩
      · ((try dsimp only); omega)
      · omega
      · omega
    · refine CW.exit (id := 2) rfl ?_
      refine CW.seq ?_
      refine CW.region ?_
      refine RL.val rfl (run_move e6_17) ?_
      refine RL.val rfl (run_move e4_17) ?_
      refine RL.val rfl (run_andU rfl rfl) ?_
      refine RL.val rfl (run_assign (v := U _) rfl) ?_
      refine RL.nil ?_
      refine CW.seq ?_
      refine CW.seq ?_
      refine CW.region ?_
      refine RL.val rfl (run_move (v := U _) rfl) ?_
      refine RL.val rfl (run_eqlU rfl (b := 0#64) rfl) ?_
      refine RL.nil ?_
      refine CW.condP rfl (fun h23 => ?_) (fun h23 => ?_)
      · refine CW.seq ?_
        refine CW.region ?_
        refine RL.val rfl (run_move e5_17) ?_
        refine RL.val rfl (run_assign (v := I _) rfl) ?_
        refine RL.val rfl (run_assign (v := B true) rfl) ?_
        refine RL.nil ?_
        refine CW.ret ?_
        rw [take_all ‹_›] at *
        refine outP2 Tryz.results68 (congrArg I ?_) (congrArg B ?_) hH17.below <;> rw [longV, hord]
        · show k = longF r 65 (below (pts r)) 0
          rw [← hF]; exact (longF_end k0 (by omega) ‹_›).symm
        · rfl
      · refine CW.skip ?_
        refine CW.seq ?_
        refine CW.region ?_
        refine RL.val rfl (run_move (v := U _) rfl) ?_
        refine RL.val rfl (run_assign (v := U _) rfl) ?_
        refine RL.nil ?_
        refine CW.region ?_
        refine RL.val rfl (run_move e5_17) ?_
        refine RL.val rfl (run_add rfl rfl (by omega)) ?_
        refine RL.val rfl (run_assign (v := I _) rfl) ?_
        refine RL.nil ?_
        refine ⟨(k + 1, stepL r s), ?_, ((((((((((((((((((fr13.u rfl).u rfl).u rfl).u rfl).u rfl).t fr17 rfl)).u rfl).u rfl).u rfl).u rfl).u rfl).u rfl).u rfl).u rfl).u rfl).u rfl).u rfl).u rfl, (hH17.sub (.cons _ (List.Sublist.refl _))), (congrArg U (by rw [take_all ‹_›]; rfl)), (congrArg I (by first | rfl | omega)), ?_, ?_, ?_, ?_⟩
        · ((try dsimp only); omega)
        · omega
        · (rw [take_all ‹_›] at *; have := step_lt hord hs ‹_›; omega)
        · exact step_in hs
        · (rw [take_all ‹_›] at *; rw [← hF]; exact (longF_step k0 (by omega) ‹_›).symm)

theorem c_clearanceref03_Order (r : Rl) (w : World) : Calls Tryz.prog 70 #[.agg (relC r)] w (Pure (B (orderB r)) w) := by
  have hp := pts_bd r
  refine enter Tryz.func70 rfl Tryz.ntmps70 rfl ?_
  have hH := Hp.start w
  refine CW.seq ?_
  refine CW.region ?_
  refine RL.new rfl hH (f := fun b => (.pointer (some ⟨b, 0, none⟩))) (run_box (v := .agg _) rfl) ?_
  intro b3 w1 hH2
  refine RL.val rfl (run_assign (v := B false) rfl) ?_
  refine RL.nil ?_
  refine CW.seq ?_
  refine CW.seq ?_
  refine CW.region ?_
  refine RL.val rfl (run_assign (v := I 0) rfl) ?_
  refine RL.nil ?_
  refine CW.block ?_
  refine CW.loop (G := (Int)) (fun (k : Int) s' w' => (Fr [2, 3, 4, 5, 6, 7, 8, 9, 10, 11, 12, 13, 14, 15, 16, 17, 18, 19, 20, 21, 22, 23, 24, 25] _ s') ∧ (Hp w w' _) ∧ (s' 3 = I k) ∧ (0 ≤ k) ∧ (k ≤ pts r) ∧ (∀ i j : Int, 0 ≤ j → j < i → i < k → (hasR r i j && hasR r j i) = false)) (fun (k : Int) => (pts r - k).toNat) (0) ⟨Fr.refl _ _, hH2, rfl, (by omega), (by omega), fun i j a b c => absurd c (by omega)⟩ ?_
  rintro k sg4 w4 ⟨fr4, hH4, e3_4, k0, k1, hf⟩
  have e1_4 : sg4 1 = .pointer (some ⟨_, _, none⟩) := (fr4 1 rfl).trans rfl
  refine CW.seq ?_
  refine CW.seq ?_
  refine CW.region ?_
  refine RL.val rfl (run_move e3_4) ?_
  refine RL.val rfl (run_ldRel Tryz.underlying42 rfl rfl e1_4 (hH4.blk (i := 0) rfl)) ?_
  refine RL.callP rfl hH4 (c_clearanceref03_Points _  _) (run_call1 Tryz.call54 rfl) ?_
  intro w5 hH6
  refine RL.val rfl (run_lss rfl rfl) ?_
  refine RL.nil ?_
  refine CW.condP rfl (fun h8 => ?_) (fun h8 => ?_)
  · refine CW.skip ?_
    refine CW.seq ?_
    refine CW.block ?_
    refine CW.seq ?_
    refine CW.region ?_
    refine RL.val rfl (run_assign (v := I 0) rfl) ?_
    refine RL.nil ?_
    refine CW.block ?_
    refine CW.loop (G := (Int)) (fun (j : Int) s' w' => (Fr [2, 4, 11, 12, 13, 14, 15, 16, 17, 18, 19, 20, 21, 22, 23, 24, 25] _ s') ∧ (Hp w w' _) ∧ (s' 4 = I j) ∧ (0 ≤ j) ∧ (j ≤ k) ∧ (∀ x : Int, 0 ≤ x → x < j → (hasR r k x && hasR r x k) = false)) (fun (j : Int) => (k - j).toNat) (0) ⟨Fr.refl _ _, hH6, rfl, (by omega), (by omega), fun x a b => absurd b (by omega)⟩ ?_
    rintro j sg9 w9 ⟨fr9, hH9, e4_9, j0, j1, hg⟩
    have e1_9 := (fr9 1 rfl).trans e1_4
    have e3_9 := (fr9 3 rfl).trans e3_4
    have e5_9 : sg9 5 = I _ := (fr9 5 rfl).trans rfl
    have e6_9 : sg9 6 = .agg _ := (fr9 6 rfl).trans rfl
    have e7_9 : sg9 7 = I _ := (fr9 7 rfl).trans rfl
    have e8_9 : sg9 8 = B _ := (fr9 8 rfl).trans rfl
    refine CW.seq ?_
    refine CW.seq ?_
    refine CW.region ?_
    refine RL.val rfl (run_move e4_9) ?_
    refine RL.val rfl (run_move e3_9) ?_
    refine RL.val rfl (run_lss rfl rfl) ?_
    refine RL.nil ?_
    refine CW.condP rfl (fun h11 => ?_) (fun h11 => ?_)
    · refine CW.skip ?_
      refine CW.seq ?_
      refine CW.block ?_
      refine CW.seq ?_
      refine CW.region ?_
      refine RL.val rfl (run_ldRel Tryz.underlying42 rfl rfl e1_9 (hH9.blk (i := 0) rfl)) ?_
      refine RL.val rfl (run_move e3_9) ?_
      refine RL.val rfl (run_move e4_9) ?_
      refine RL.callP rfl hH9 (c_clearanceref03_Has _ _ _  _) (run_call3 Tryz.call61 rfl rfl rfl) ?_
      intro w12 hH13
      refine RL.val rfl (run_move (v := B _) rfl) ?_
      refine RL.split (dj := 20) rfl (fun h15 => ?_) (fun h15 => ?_)
      · refine RL.gT rfl (bR (c := true) h15) ?_
        refine RL.val rfl (run_ldRel Tryz.underlying42 rfl rfl e1_9 (hH13.blk (i := 0) rfl)) ?_
        refine RL.gT rfl (bR (c := true) h15) ?_
        refine RL.val rfl (run_move e4_9) ?_
        refine RL.gT rfl (bR (c := true) h15) ?_
        refine RL.val rfl (run_move e3_9) ?_
        refine RL.gT rfl (bR (c := true) h15) ?_
        refine RL.callP rfl hH13 (c_clearanceref03_Has _ _ _  _) (run_call3 Tryz.call61 rfl rfl rfl) ?_
        intro w16 hH17
        refine RL.val rfl (run_pickT (bR (c := true) h15) (v := B _) rfl) ?_
        refine RL.nil ?_
        refine CW.cond rfl (fun h19 => ?_) (fun h19 => ?_)
        · refine CW.seq ?_
          refine CW.region ?_
          refine RL.val rfl (run_assign (v := B false) rfl) ?_
          refine RL.nil ?_
          refine CW.ret ?_
          refine outP1 Tryz.results70 (congrArg B ?_) hH17.below
          first | exact (order_ref ‹_› hf).symm | exact (order_refno ‹hasR r k j = true› ‹hasR r j k = true› ‹_›).symm
        · refine CW.skip ?_
          refine CW.region ?_
          refine RL.val rfl (run_move e4_9) ?_
          refine RL.val rfl (run_add rfl rfl (by omega)) ?_
          refine RL.val rfl (run_assign (v := I _) rfl) ?_
          refine RL.nil ?_
          refine ⟨j + 1, ?_, (((((((((((((((fr9.u rfl).u rfl).u rfl).u rfl).u rfl).u rfl).u rfl).u rfl).u rfl).u rfl).u rfl).u rfl).u rfl).u rfl).u rfl).u rfl, hH17, (congrArg I (by first | rfl | omega)), ?_, ?_, ?_⟩
          · ((try dsimp only); omega)
          · omega
          · omega
          · exact fun x u v => if e : x = j then e ▸ (by first | (rw [‹hasR r k j = false›]; rfl) | (rw [‹hasR r j k = false›]; simp)) else hg x u (by omega)
      · refine RL.gF rfl rfl (bR (c := false) h15) rfl ?_
        refine RL.gF rfl rfl (bR (c := false) h15) rfl ?_
        refine RL.gF rfl rfl (bR (c := false) h15) rfl ?_
        refine RL.gF rfl rfl (bR (c := false) h15) rfl ?_
        refine RL.val rfl (run_pickF (bR (c := false) h15) (v := B false) rfl) ?_
        refine RL.nil ?_
        refine CW.condF rfl ?_
        refine CW.skip ?_
        refine CW.region ?_
        refine RL.val rfl (run_move e4_9) ?_
        refine RL.val rfl (run_add rfl rfl (by omega)) ?_
        refine RL.val rfl (run_assign (v := I _) rfl) ?_
        refine RL.nil ?_
        refine ⟨j + 1, ?_, (((((((((((((((fr9.u rfl).u rfl).u rfl).u rfl).u rfl).u rfl).u rfl).u rfl).u rfl).u rfl).u rfl).u rfl).u rfl).u rfl).u rfl).u rfl, hH13, (congrArg I (by first | rfl | omega)), ?_, ?_, ?_⟩
        · ((try dsimp only); omega)
        · omega
        · omega
        · exact fun x u v => if e : x = j then e ▸ (by first | (rw [‹hasR r k j = false›]; rfl) | (rw [‹hasR r j k = false›]; simp)) else hg x u (by omega)
    · refine CW.exit (id := 2) rfl ?_
      refine CW.region ?_
      refine RL.val rfl (run_move e3_9) ?_
      refine RL.val rfl (run_add rfl rfl (by omega)) ?_
      refine RL.val rfl (run_assign (v := I _) rfl) ?_
      refine RL.nil ?_
      refine ⟨k + 1, ?_, ((((((((((((fr4.u rfl).u rfl).u rfl).u rfl).u rfl).t fr9 rfl)).u rfl).u rfl).u rfl).u rfl).u rfl).u rfl, hH9, (congrArg I (by first | rfl | omega)), ?_, ?_, ?_⟩
      · ((try dsimp only); omega)
      · omega
      · omega
      · exact fun i x u v y => if e : i = k then e ▸ hg x u (by omega) else hf i x u v (by omega)
  · refine CW.exit (id := 0) rfl ?_
    refine CW.seq ?_
    refine CW.region ?_
    refine RL.val rfl (run_ldRel Tryz.underlying42 rfl rfl e1_4 (hH6.blk (i := 0) rfl)) ?_
    refine RL.callP rfl hH6 (c_clearanceref03_Closed _  _) (run_call1 Tryz.call89 rfl) ?_
    intro w20 hH21
    refine RL.val rfl (run_assign (v := B _) rfl) ?_
    refine RL.nil ?_
    refine CW.ret ?_
    refine outP1 Tryz.results70 (congrArg B ?_) hH21.below
    first | exact (order_ref ‹_› hf).symm | exact (order_refno ‹hasR r k j = true› ‹hasR r j k = true› ‹_›).symm

theorem c_relate_Classes (r : Rl) (w : World) (hT : Tab w) : Calls Tryz.prog 99 #[.agg (relC r)] w (Pure (I (clsTo r (pts r))) w) := by
  have hp := pts_bd r
  have hcn : (cloR r).n = pts r := rfl
  refine enter Tryz.func99 rfl Tryz.ntmps99 rfl ?_
  have hH := Hp.start w
  refine CW.seq ?_
  refine CW.region ?_
  refine RL.new rfl hH (f := fun b => (.pointer (some ⟨b, 0, none⟩))) (run_box (v := .agg _) rfl) ?_
  intro b3 w1 hH2
  refine RL.val rfl (run_assign (v := I 0) rfl) ?_
  refine RL.nil ?_
  refine CW.seq ?_
  refine CW.region ?_
  refine RL.val rfl (run_ldRel Tryz.underlying42 rfl rfl rfl (hH2.blk (i := 0) rfl)) ?_
  refine RL.callP rfl hH2 (c_relate_Closure _  _) (run_call1 Tryz.call115 rfl) ?_
  intro w4 hH5
  refine RL.new rfl hH5 (f := fun b => (.pointer (some ⟨b, 0, none⟩))) (run_alloc zero_rel) ?_
  intro b8 w6 hH7
  refine RL.set hH7 (i := 0) rfl (run_stRel rfl rfl rfl (hH7.blk (i := 0) rfl)) ?_
  intro w9 hH10
  simp only [List.set_cons_zero, List.set_cons_succ] at hH10
  refine RL.nil ?_
  refine CW.seq ?_
  refine CW.region ?_
  refine RL.val rfl (run_assign (v := I 0) rfl) ?_
  refine RL.nil ?_
  refine CW.seq ?_
  refine CW.seq ?_
  refine CW.region ?_
  refine RL.val rfl (run_fieldAddr Tryz.underlying42 rfl (off := 0) rfl Tryz.sizeOf3 (by decide) rfl) ?_
  refine RL.val rfl (run_ld Tryz.underlying3 rfl rfl (hH10.cell (i := 0) rfl (relC_N _))) ?_
  refine RL.val rfl (run_move (v := I 0) rfl) ?_
  refine RL.nil ?_
  refine CW.block ?_
  refine CW.loop (G := (Int)) (fun (k : Int) s' w' => (Fr [4, 5, 6, 7, 12, 13, 14, 15, 16, 17, 18, 19, 20, 21, 22, 23, 24, 25, 26, 27] _ s') ∧ (Hp w w' _) ∧ (s' 4 = I (clsTo r k)) ∧ (s' 12 = I k) ∧ (0 ≤ k) ∧ (k ≤ pts r)) (fun (k : Int) => (pts r - k).toNat) (0) ⟨Fr.refl _ _, hH10, rfl, rfl, (by omega), (by omega)⟩ ?_
  rintro k sg11 w11 ⟨fr11, hH11, e4_11, e12_11, h0, hk⟩
  have e2_11 : sg11 2 = I _ := (fr11 2 rfl).trans rfl
  have e3_11 : sg11 3 = .pointer (some ⟨_, _, none⟩) := (fr11 3 rfl).trans rfl
  have e11_11 : sg11 11 = I _ := (fr11 11 rfl).trans rfl
  refine CW.seq ?_
  refine CW.region ?_
  refine RL.val rfl (run_lss e12_11 e11_11) ?_
  refine RL.nil ?_
  refine CW.seq ?_
  refine CW.condP rfl (fun h13 => ?_) (fun h13 => ?_)
  · refine CW.skip ?_
    refine CW.seq ?_
    refine CW.block ?_
    refine CW.seq ?_
    refine CW.region ?_
    refine RL.val rfl (run_move e12_11) ?_
    refine RL.val rfl (run_assign (v := I _) rfl) ?_
    refine RL.nil ?_
    refine CW.seq ?_
    refine CW.region ?_
    refine RL.val rfl (run_ldRel Tryz.underlying42 rfl rfl e3_11 (hH11.blk (i := 0) rfl)) ?_
    refine RL.val rfl (run_move (v := I _) rfl) ?_
    refine RL.callP rfl hH11 (c_relate_mutual _ _  _ (hT.hp hH11)) (run_call2 Tryz.call116 rfl rfl) ?_
    intro w14 hH15
    refine RL.callP rfl hH15 (c_mask_Least _  _ (hT.hp hH15)) (run_call1 Tryz.call122 rfl) ?_
    intro w16 hH17
    refine RL.val rfl (run_move (by conv => lhs; whnf)) ?_
    refine RL.val rfl (run_extract rfl (v := I _) rfl) ?_
    refine RL.val rfl (run_extract rfl (v := B _) rfl) ?_
    refine RL.val rfl (run_assign (v := I _) rfl) ?_
    refine RL.val rfl (run_assign (v := B _) rfl) ?_
    refine RL.nil ?_
    refine CW.seq ?_
    refine CW.region ?_
    refine RL.val rfl (run_move (v := I _) rfl) ?_
    refine RL.val rfl (run_move (v := I _) rfl) ?_
    refine RL.val rfl (run_eql rfl rfl) ?_
    refine RL.nil ?_
    refine CW.condP rfl (fun h20 => ?_) (fun h20 => ?_)
    · refine CW.region ?_
      refine RL.val rfl (run_move e4_11) ?_
      refine RL.val rfl (run_add rfl rfl (by first | omega | (have := @cls_bd r k h0; omega))) ?_
      refine RL.val rfl (run_assign (v := I _) rfl) ?_
      refine RL.nil ?_
      refine CW.region ?_
      refine RL.val rfl (run_add e12_11 rfl (by first | omega | (have := @cls_bd r k h0; omega))) ?_
      refine RL.val rfl (run_move (v := I _) rfl) ?_
      refine RL.nil ?_
      refine ⟨k + 1, ?_, (((((((((((((((((((fr11.u rfl).u rfl).u rfl).u rfl).u rfl).u rfl).u rfl).u rfl).u rfl).u rfl).u rfl).u rfl).u rfl).u rfl).u rfl).u rfl).u rfl).u rfl).u rfl).u rfl, hH17, (congrArg I (by first | exact cls_eq ⟨h0, by omega⟩ ‹_› | exact cls_ne ⟨h0, by omega⟩ ‹_›)), (congrArg I (by first | rfl | omega)), ?_, ?_⟩
      · ((try dsimp only); omega)
      · omega
      · omega
    · refine CW.skip ?_
      refine CW.region ?_
      refine RL.val rfl (run_add e12_11 rfl (by first | omega | (have := @cls_bd r k h0; omega))) ?_
      refine RL.val rfl (run_move (v := I _) rfl) ?_
      refine RL.nil ?_
      refine ⟨k + 1, ?_, ((((((((((((((((fr11.u rfl).u rfl).u rfl).u rfl).u rfl).u rfl).u rfl).u rfl).u rfl).u rfl).u rfl).u rfl).u rfl).u rfl).u rfl).u rfl).u rfl, hH17, (Eq.trans e4_11 (congrArg I (by first | exact cls_eq ⟨h0, by omega⟩ ‹_› | exact cls_ne ⟨h0, by omega⟩ ‹_›))), (congrArg I (by first | rfl | omega)), ?_, ?_⟩
      · ((try dsimp only); omega)
      · omega
      · omega
  · refine CW.exit (id := 0) rfl ?_
    refine CW.seq ?_
    refine CW.region ?_
    refine RL.val rfl (run_move e4_11) ?_
    refine RL.val rfl (run_assign (v := I _) rfl) ?_
    refine RL.nil ?_
    refine CW.ret ?_
    refine outP1 Tryz.results99 (congrArg I ?_) hH11.below
    rw [show k = pts r by omega]

theorem c_clearanceref03_Classes (r : Rl) (w : World) : Calls Tryz.prog 69 #[.agg (relC r)] w (Pure (I (clsTo r (pts r))) w) := by
  have hp := pts_bd r
  have hcn : (cloR r).n = pts r := rfl
  refine enter Tryz.func69 rfl Tryz.ntmps69 rfl ?_
  have hH := Hp.start w
  refine CW.seq ?_
  refine CW.region ?_
  refine RL.new rfl hH (f := fun b => (.pointer (some ⟨b, 0, none⟩))) (run_box (v := .agg _) rfl) ?_
  intro b3 w1 hH2
  refine RL.val rfl (run_assign (v := I 0) rfl) ?_
  refine RL.nil ?_
  refine CW.seq ?_
  refine CW.region ?_
  refine RL.val rfl (run_ldRel Tryz.underlying42 rfl rfl rfl (hH2.blk (i := 0) rfl)) ?_
  refine RL.callP rfl hH2 (c_clearanceref03_Closure _  _) (run_call1 Tryz.call103 rfl) ?_
  intro w4 hH5
  refine RL.new rfl hH5 (f := fun b => (.pointer (some ⟨b, 0, none⟩))) (run_alloc zero_rel) ?_
  intro b8 w6 hH7
  refine RL.set hH7 (i := 0) rfl (run_stRel rfl rfl rfl (hH7.blk (i := 0) rfl)) ?_
  intro w9 hH10
  simp only [List.set_cons_zero, List.set_cons_succ] at hH10
  refine RL.nil ?_
  refine CW.seq ?_
  refine CW.region ?_
  refine RL.val rfl (run_assign (v := I 0) rfl) ?_
  refine RL.nil ?_
  refine CW.seq ?_
  refine CW.seq ?_
  refine CW.region ?_
  refine RL.val rfl (run_assign (v := I 0) rfl) ?_
  refine RL.nil ?_
  refine CW.block ?_
  refine CW.loop (G := (Int)) (fun (k : Int) s' w' => (Fr [4, 5, 6, 7, 10, 11, 12, 13, 14, 15, 16, 17, 18, 19, 20, 21, 22, 23, 24, 25, 26, 27, 28, 29, 30, 31, 32, 33] _ s') ∧ (Hp w w' _) ∧ (s' 4 = I (clsTo r k)) ∧ (s' 5 = I k) ∧ (0 ≤ k) ∧ (k ≤ pts r)) (fun (k : Int) => (pts r - k).toNat) (0) ⟨Fr.refl _ _, hH10, rfl, rfl, (by omega), (by omega)⟩ ?_
  rintro k sg11 w11 ⟨fr11, hH11, e4_11, e5_11, h0, hk⟩
  have e2_11 : sg11 2 = I _ := (fr11 2 rfl).trans rfl
  have e3_11 : sg11 3 = .pointer (some ⟨_, _, none⟩) := (fr11 3 rfl).trans rfl
  refine CW.seq ?_
  refine CW.seq ?_
  refine CW.region ?_
  refine RL.val rfl (run_move e5_11) ?_
  refine RL.val rfl (run_fieldAddr Tryz.underlying42 rfl (off := 0) rfl Tryz.sizeOf3 (by decide) e3_11) ?_
  refine RL.val rfl (run_ld Tryz.underlying3 rfl rfl (hH11.cell (i := 0) rfl (relC_N _))) ?_
  refine RL.val rfl (run_lss rfl rfl) ?_
  refine RL.nil ?_
  refine CW.condP rfl (fun h13 => ?_) (fun h13 => ?_)
  · refine CW.skip ?_
    refine CW.seq ?_
    refine CW.block ?_
    refine CW.seq ?_
    refine CW.region ?_
    refine RL.val rfl (run_assign (v := B true) rfl) ?_
    refine RL.nil ?_
    refine CW.seq ?_
    refine CW.seq ?_
    refine CW.region ?_
    refine RL.val rfl (run_assign (v := I 0) rfl) ?_
    refine RL.nil ?_
    refine CW.block ?_
    refine CW.loop (G := (Int)) (fun (j : Int) s' w' => (Fr [6, 7, 16, 17, 18, 19, 20, 21, 22, 23, 24, 25, 26, 27, 28, 29, 30] _ s') ∧ (Hp w w' _) ∧ (s' 6 = B (newTo (cloR r) k j)) ∧ (s' 7 = I j) ∧ (0 ≤ j) ∧ (j ≤ k)) (fun (j : Int) => (k - j).toNat) (0) ⟨Fr.refl _ _, hH11, rfl, rfl, (by omega), (by omega)⟩ ?_
    rintro j sg14 w14 ⟨fr14, hH14, e6_14, e7_14, j0, j1⟩
    have e2_14 := (fr14 2 rfl).trans e2_11
    have e3_14 := (fr14 3 rfl).trans e3_11
    have e4_14 := (fr14 4 rfl).trans e4_11
    have e5_14 := (fr14 5 rfl).trans e5_11
    have e10_14 : sg14 10 = I _ := (fr14 10 rfl).trans rfl
    have e11_14 : sg14 11 = .pointer (some ⟨_, _, none⟩) := (fr14 11 rfl).trans rfl
    have e12_14 : sg14 12 = I _ := (fr14 12 rfl).trans rfl
    have e13_14 : sg14 13 = B _ := (fr14 13 rfl).trans rfl
    refine CW.seq ?_
    refine CW.seq ?_
    refine CW.region ?_
    refine RL.val rfl (run_move e7_14) ?_
    refine RL.val rfl (run_move e5_14) ?_
    refine RL.val rfl (run_lss rfl rfl) ?_
    refine RL.nil ?_
    refine CW.condP rfl (fun h17 => ?_) (fun h17 => ?_)
    · refine CW.skip ?_
      refine CW.seq ?_
      refine CW.block ?_
      refine CW.seq ?_
      refine CW.region ?_
      refine RL.val rfl (run_ldRel Tryz.underlying42 rfl rfl e3_14 (hH14.blk (i := 0) rfl)) ?_
      refine RL.val rfl (run_move e5_14) ?_
      refine RL.val rfl (run_move e7_14) ?_
      refine RL.callP rfl hH14 (c_clearanceref03_Has _ _ _  _) (run_call3 Tryz.call61 rfl rfl rfl) ?_
      intro w18 hH19
      refine RL.val rfl (run_move (v := B _) rfl) ?_
      refine RL.split (dj := 25) rfl (fun h21 => ?_) (fun h21 => ?_)
      · refine RL.gT rfl (bR (c := true) h21) ?_
        refine RL.val rfl (run_ldRel Tryz.underlying42 rfl rfl e3_14 (hH19.blk (i := 0) rfl)) ?_
        refine RL.gT rfl (bR (c := true) h21) ?_
        refine RL.val rfl (run_move e7_14) ?_
        refine RL.gT rfl (bR (c := true) h21) ?_
        refine RL.val rfl (run_move e5_14) ?_
        refine RL.gT rfl (bR (c := true) h21) ?_
        refine RL.callP rfl hH19 (c_clearanceref03_Has _ _ _  _) (run_call3 Tryz.call61 rfl rfl rfl) ?_
        intro w22 hH23
        refine RL.val rfl (run_pickT (bR (c := true) h21) (v := B _) rfl) ?_
        refine RL.nil ?_
        refine CW.cond rfl (fun h25 => ?_) (fun h25 => ?_)
        · refine CW.region ?_
          refine RL.val rfl (run_assign (v := B false) rfl) ?_
          refine RL.nil ?_
          refine CW.region ?_
          refine RL.val rfl (run_move e7_14) ?_
          refine RL.val rfl (run_add rfl rfl (by first | omega | (have := @cls_bd r k h0; omega))) ?_
          refine RL.val rfl (run_assign (v := I _) rfl) ?_
          refine RL.nil ?_
          refine ⟨j + 1, ?_, ((((((((((((((((fr14.u rfl).u rfl).u rfl).u rfl).u rfl).u rfl).u rfl).u rfl).u rfl).u rfl).u rfl).u rfl).u rfl).u rfl).u rfl).u rfl).u rfl, hH23, (congrArg B (by first | exact new_no j0 ‹hasR (cloR r) k j = true› ‹hasR (cloR r) j k = true› | exact new_same1 j0 ‹_› | exact new_same2 j0 ‹_›)), (congrArg I (by first | rfl | omega)), ?_, ?_⟩
          · ((try dsimp only); omega)
          · omega
          · omega
        · refine CW.skip ?_
          refine CW.region ?_
          refine RL.val rfl (run_move e7_14) ?_
          refine RL.val rfl (run_add rfl rfl (by first | omega | (have := @cls_bd r k h0; omega))) ?_
          refine RL.val rfl (run_assign (v := I _) rfl) ?_
          refine RL.nil ?_
          refine ⟨j + 1, ?_, (((((((((((((((fr14.u rfl).u rfl).u rfl).u rfl).u rfl).u rfl).u rfl).u rfl).u rfl).u rfl).u rfl).u rfl).u rfl).u rfl).u rfl).u rfl, hH23, (Eq.trans e6_14 (congrArg B (by first | exact new_no j0 ‹hasR (cloR r) k j = true› ‹hasR (cloR r) j k = true› | exact new_same1 j0 ‹_› | exact new_same2 j0 ‹_›))), (congrArg I (by first | rfl | omega)), ?_, ?_⟩
          · ((try dsimp only); omega)
          · omega
          · omega
      · refine RL.gF rfl rfl (bR (c := false) h21) rfl ?_
        refine RL.gF rfl rfl (bR (c := false) h21) rfl ?_
        refine RL.gF rfl rfl (bR (c := false) h21) rfl ?_
        refine RL.gF rfl rfl (bR (c := false) h21) rfl ?_
        refine RL.val rfl (run_pickF (bR (c := false) h21) (v := B false) rfl) ?_
        refine RL.nil ?_
        refine CW.condF rfl ?_
        refine CW.skip ?_
        refine CW.region ?_
        refine RL.val rfl (run_move e7_14) ?_
        refine RL.val rfl (run_add rfl rfl (by first | omega | (have := @cls_bd r k h0; omega))) ?_
        refine RL.val rfl (run_assign (v := I _) rfl) ?_
        refine RL.nil ?_
        refine ⟨j + 1, ?_, (((((((((((((((fr14.u rfl).u rfl).u rfl).u rfl).u rfl).u rfl).u rfl).u rfl).u rfl).u rfl).u rfl).u rfl).u rfl).u rfl).u rfl).u rfl, hH19, (Eq.trans e6_14 (congrArg B (by first | exact new_no j0 ‹hasR (cloR r) k j = true› ‹hasR (cloR r) j k = true› | exact new_same1 j0 ‹_› | exact new_same2 j0 ‹_›))), (congrArg I (by first | rfl | omega)), ?_, ?_⟩
        · ((try dsimp only); omega)
        · omega
        · omega
    · refine CW.exit (id := 2) rfl ?_
      refine CW.seq ?_
      refine CW.region ?_
      refine RL.val rfl (run_move e6_14) ?_
      refine RL.nil ?_
      refine CW.cond rfl (fun h26 => ?_) (fun h26 => ?_)
      · refine CW.region ?_
        refine RL.val rfl (run_move e4_14) ?_
        refine RL.val rfl (run_add rfl rfl (by first | omega | (have := @cls_bd r k h0; omega))) ?_
        refine RL.val rfl (run_assign (v := I _) rfl) ?_
        refine RL.nil ?_
        refine CW.region ?_
        refine RL.val rfl (run_move e5_14) ?_
        refine RL.val rfl (run_add rfl rfl (by first | omega | (have := @cls_bd r k h0; omega))) ?_
        refine RL.val rfl (run_assign (v := I _) rfl) ?_
        refine RL.nil ?_
        refine ⟨k + 1, ?_, (((((((((((((((((fr11.u rfl).u rfl).u rfl).u rfl).u rfl).u rfl).t fr14 rfl)).u rfl).u rfl).u rfl).u rfl).u rfl).u rfl).u rfl).u rfl).u rfl).u rfl, hH14, (congrArg I (by first | exact cls_yes h0 (by rw [← ‹newTo (cloR r) k j = true›, show j = k by omega]) | exact cls_no h0 (by rw [← ‹newTo (cloR r) k j = false›, show j = k by omega]))), (congrArg I (by first | rfl | omega)), ?_, ?_⟩
        · ((try dsimp only); omega)
        · omega
        · omega
      · refine CW.skip ?_
        refine CW.region ?_
        refine RL.val rfl (run_move e5_14) ?_
        refine RL.val rfl (run_add rfl rfl (by first | omega | (have := @cls_bd r k h0; omega))) ?_
        refine RL.val rfl (run_assign (v := I _) rfl) ?_
        refine RL.nil ?_
        refine ⟨k + 1, ?_, ((((((((((((((fr11.u rfl).u rfl).u rfl).u rfl).u rfl).u rfl).t fr14 rfl)).u rfl).u rfl).u rfl).u rfl).u rfl).u rfl).u rfl, hH14, (Eq.trans e4_14 (congrArg I (by first | exact cls_yes h0 (by rw [← ‹newTo (cloR r) k j = true›, show j = k by omega]) | exact cls_no h0 (by rw [← ‹newTo (cloR r) k j = false›, show j = k by omega])))), (congrArg I (by first | rfl | omega)), ?_, ?_⟩
        · ((try dsimp only); omega)
        · omega
        · omega
  · refine CW.exit (id := 0) rfl ?_
    refine CW.seq ?_
    refine CW.region ?_
    refine RL.val rfl (run_move e4_11) ?_
    refine RL.val rfl (run_assign (v := I _) rfl) ?_
    refine RL.nil ?_
    refine CW.ret ?_
    refine outP1 Tryz.results69 (congrArg I ?_) hH11.below
    rw [show k = pts r by omega]

theorem c_clearanceref03_Long (r : Rl) (w : World) : Calls Tryz.prog 40 #[.agg (relC r)] w (Pure (.tuple #[I (longV r).1, B (longV r).2]) w) := by
  have hp := pts_bd r
  refine enter Tryz.func40 rfl Tryz.ntmps40 rfl ?_
  have hH := Hp.start w
  refine CW.seq ?_
  refine CW.region ?_
  refine RL.new rfl hH (f := fun b => (.pointer (some ⟨b, 0, none⟩))) (run_box (v := .agg _) rfl) ?_
  intro b3 w1 hH2
  refine RL.val rfl (run_assign (v := I 0) rfl) ?_
  refine RL.val rfl (run_assign (v := B false) rfl) ?_
  refine RL.nil ?_
  refine CW.seq ?_
  refine CW.seq ?_
  refine CW.region ?_
  refine RL.val rfl (run_ldRel Tryz.underlying42 rfl rfl rfl (hH2.blk (i := 0) rfl)) ?_
  refine RL.callP rfl hH2 (c_clearanceref03_Order _  _) (run_call1 Tryz.call70 rfl) ?_
  intro w4 hH5
  refine RL.val rfl (run_not rfl) ?_
  refine RL.nil ?_
  refine CW.cond rfl (fun h8 => ?_) (fun h8 => ?_)
  · refine CW.seq ?_
    refine CW.region ?_
    refine RL.val rfl (run_assign (v := I 0) rfl) ?_
    refine RL.val rfl (run_assign (v := B false) rfl) ?_
    refine RL.nil ?_
    refine CW.ret ?_
    have hord : orderB r = false := nt ‹_›
    refine outP2 Tryz.results40 (congrArg I ?_) (congrArg B ?_) hH5.below <;> rw [longV, hord] <;> rfl
  · refine CW.skip ?_
    refine CW.seq ?_
    refine CW.region ?_
    refine RL.new rfl hH5 (f := fun b => (.pointer (some ⟨b, 0, none⟩))) (run_alloc zero_arr) ?_
    intro b11 w9 hH10
    refine RL.nil ?_
    refine CW.seq ?_
    refine CW.region ?_
    refine RL.val rfl (run_assign (v := I 0) rfl) ?_
    refine RL.nil ?_
    refine CW.seq ?_
    refine CW.seq ?_
    refine CW.region ?_
    refine RL.val rfl (run_assign (v := I 0) rfl) ?_
    refine RL.nil ?_
    refine CW.block ?_
    have hord : orderB r = true := nf ‹_›
    refine CW.loop (G := (Int) × (Nat → Int)) (fun (⟨k, F⟩ : (Int) × (Nat → Int)) s' w' => (Fr [6, 7, 8, 13, 14, 15, 16, 17, 18, 19, 20, 21, 22, 23, 24, 25, 26, 27, 28, 29, 30, 31, 32, 33, 34, 35, 36, 37, 38, 39, 40, 41, 42, 43, 44, 45, 46, 47, 48, 49, 50, 51, 52, 53, 54] _ s') ∧ (Hp w w' (.blk b11 (.cells (arrC F) 74 (0, 0)) :: _)) ∧ (s' 6 = I k) ∧ (0 ≤ k) ∧ (k ≤ pts r) ∧ (FarOk r F) ∧ (FarUp r F k)) (fun (⟨k, F⟩ : (Int) × (Nat → Int)) => (pts r - k).toNat) ((0, fun _ => 0)) ⟨Fr.refl _ _, hH10, rfl, (by omega), (by omega), far_ok0 r, far_up0 (far_ok0 r)⟩ ?_
    rintro ⟨k, F⟩ sg12 w12 ⟨fr12, hH12, e6_12, k0, k1, hF0, hU⟩
    have e1_12 : sg12 1 = .pointer (some ⟨_, _, none⟩) := (fr12 1 rfl).trans rfl
    have e2_12 : sg12 2 = I _ := (fr12 2 rfl).trans rfl
    have e3_12 : sg12 3 = B _ := (fr12 3 rfl).trans rfl
    have e4_12 : sg12 4 = .pointer (some ⟨_, _, none⟩) := (fr12 4 rfl).trans rfl
    have e5_12 : sg12 5 = I _ := (fr12 5 rfl).trans rfl
    refine CW.seq ?_
    refine CW.seq ?_
    refine CW.region ?_
    refine RL.val rfl (run_move e6_12) ?_
    refine RL.val rfl (run_ldRel Tryz.underlying42 rfl rfl e1_12 (hH12.blk (i := 1) rfl)) ?_
    refine RL.callP rfl hH12 (c_clearanceref03_Points _  _) (run_call1 Tryz.call54 rfl) ?_
    intro w13 hH14
    refine RL.val rfl (run_lss rfl rfl) ?_
    refine RL.nil ?_
    refine CW.condP rfl (fun h16 => ?_) (fun h16 => ?_)
    · refine CW.skip ?_
      refine CW.seq ?_
      refine CW.block ?_
      refine CW.seq ?_
      refine CW.region ?_
      refine RL.val rfl (run_assign (v := I 0) rfl) ?_
      refine RL.nil ?_
      refine CW.block ?_
      refine CW.loop (G := (Int) × (Nat → Int)) (fun (⟨i, F1⟩ : (Int) × (Nat → Int)) s' w' => (Fr [7, 8, 19, 20, 21, 22, 23, 24, 25, 26, 27, 28, 29, 30, 31, 32, 33, 34, 35, 36, 37, 38, 39, 40, 41, 42, 43, 44, 45, 46, 47, 48, 49, 50, 51, 52, 53, 54] _ s') ∧ (Hp w w' (.blk b11 (.cells (arrC F1) 74 (0, 0)) :: _)) ∧ (s' 7 = I i) ∧ (0 ≤ i) ∧ (i ≤ pts r) ∧ (FarOk r F1) ∧ (FarGe F F1) ∧ (FarAll r F F1 i)) (fun (⟨i, F1⟩ : (Int) × (Nat → Int)) => (pts r - i).toNat) ((0, F)) ⟨Fr.refl _ _, hH14, rfl, (by omega), (by omega), hF0, FarGe.refl _, FarAll.none _ _ _⟩ ?_
      rintro ⟨i, F1⟩ sg17 w17 ⟨fr17, hH17, e7_17, i0, i1, hF1, hge, hall⟩
      have e1_17 := (fr17 1 rfl).trans e1_12
      have e2_17 := (fr17 2 rfl).trans e2_12
      have e3_17 := (fr17 3 rfl).trans e3_12
      have e4_17 := (fr17 4 rfl).trans e4_12
      have e5_17 := (fr17 5 rfl).trans e5_12
      have e6_17 := (fr17 6 rfl).trans e6_12
      have e13_17 : sg17 13 = I _ := (fr17 13 rfl).trans rfl
      have e14_17 : sg17 14 = .agg _ := (fr17 14 rfl).trans rfl
      have e15_17 : sg17 15 = I _ := (fr17 15 rfl).trans rfl
      have e16_17 : sg17 16 = B _ := (fr17 16 rfl).trans rfl
      refine CW.seq ?_
      refine CW.seq ?_
      refine CW.region ?_
      refine RL.val rfl (run_move e7_17) ?_
      refine RL.val rfl (run_ldRel Tryz.underlying42 rfl rfl e1_17 (hH17.blk (i := 1) rfl)) ?_
      refine RL.callP rfl hH17 (c_clearanceref03_Points _  _) (run_call1 Tryz.call54 rfl) ?_
      intro w18 hH19
      refine RL.val rfl (run_lss rfl rfl) ?_
      refine RL.nil ?_
      refine CW.condP rfl (fun h21 => ?_) (fun h21 => ?_)
      · refine CW.skip ?_
        refine CW.seq ?_
        refine CW.block ?_
        refine CW.seq ?_
        refine CW.region ?_
        refine RL.val rfl (run_assign (v := I 0) rfl) ?_
        refine RL.nil ?_
        refine CW.block ?_
        refine CW.loop (G := (Int) × (Nat → Int)) (fun (⟨j, F2⟩ : (Int) × (Nat → Int)) s' w' => (Fr [8, 25, 26, 27, 28, 29, 30, 31, 32, 33, 34, 35, 36, 37, 38, 39, 40, 41, 42, 43, 44, 45, 46, 47, 48, 49, 50, 51, 52, 53, 54] _ s') ∧ (Hp w w' (.blk b11 (.cells (arrC F2) 74 (0, 0)) :: _)) ∧ (s' 8 = I j) ∧ (0 ≤ j) ∧ (j ≤ pts r) ∧ (FarOk r F2) ∧ (FarGe F F2) ∧ (FarAll r F F2 i) ∧ (FarRow r F F2 i j)) (fun (⟨j, F2⟩ : (Int) × (Nat → Int)) => (pts r - j).toNat) ((0, F1)) ⟨Fr.refl _ _, hH19, rfl, (by omega), (by omega), hF1, hge, hall, FarRow.none _ _ _ _⟩ ?_
        rintro ⟨j, F2⟩ sg22 w22 ⟨fr22, hH22, e8_22, j0, j1, hF, hge2, hall2, hrow⟩
        have e1_22 := (fr22 1 rfl).trans e1_17
        have e2_22 := (fr22 2 rfl).trans e2_17
        have e3_22 := (fr22 3 rfl).trans e3_17
        have e4_22 := (fr22 4 rfl).trans e4_17
        have e5_22 := (fr22 5 rfl).trans e5_17
        have e6_22 := (fr22 6 rfl).trans e6_17
        have e7_22 := (fr22 7 rfl).trans e7_17
        have e13_22 := (fr22 13 rfl).trans e13_17
        have e14_22 := (fr22 14 rfl).trans e14_17
        have e15_22 := (fr22 15 rfl).trans e15_17
        have e16_22 := (fr22 16 rfl).trans e16_17
        have e19_22 : sg22 19 = I _ := (fr22 19 rfl).trans rfl
        have e20_22 : sg22 20 = .agg _ := (fr22 20 rfl).trans rfl
        have e21_22 : sg22 21 = I _ := (fr22 21 rfl).trans rfl
        have e22_22 : sg22 22 = B _ := (fr22 22 rfl).trans rfl
        refine CW.seq ?_
        refine CW.seq ?_
        refine CW.region ?_
        refine RL.val rfl (run_move e8_22) ?_
        refine RL.val rfl (run_ldRel Tryz.underlying42 rfl rfl e1_22 (hH22.blk (i := 1) rfl)) ?_
        refine RL.callP rfl hH22 (c_clearanceref03_Points _  _) (run_call1 Tryz.call54 rfl) ?_
        intro w23 hH24
        refine RL.val rfl (run_lss rfl rfl) ?_
        refine RL.nil ?_
        refine CW.condP rfl (fun h26 => ?_) (fun h26 => ?_)
        · refine CW.skip ?_
          refine CW.seq ?_
          refine CW.block ?_
          refine CW.seq ?_
          refine CW.regionD (by kernel_rfl) hH24 ?_
          intro w27 hH28
          refine AN.take 0 rfl rfl (by kernel_rfl) (by kernel_rfl) (by kernel_rfl) (hH28.sub (List.Sublist.refl _)) (fun w hS => run_move e7_22) ?_
          refine AN.take 1 rfl rfl (by kernel_rfl) (by kernel_rfl) (by kernel_rfl) (hH28.sub (List.Sublist.refl _)) (fun w hS => run_move e8_22) ?_
          refine AN.take 2 rfl rfl (by kernel_rfl) (by kernel_rfl) (by kernel_rfl) (hH28.sub (List.Sublist.refl _)) (fun w hS => run_neq rfl rfl) ?_
          refine AN.take 3 rfl rfl (by kernel_rfl) (by kernel_rfl) (by kernel_rfl) (hH28.sub (List.Sublist.refl _)) (fun w hS => run_move (v := B _) rfl) ?_
          refine AN.splitP (dj := 34) rfl (fun h30 => ?_) (fun h30 => ?_)
          · refine AN.takeG 4 rfl rfl (bT h30) rfl (by kernel_rfl) (by kernel_rfl) (by kernel_rfl) (hH28.sub (List.Sublist.refl _)) (fun w hS => run_ldRel Tryz.underlying42 rfl rfl e1_22 (hS.blk (i := 1) rfl)) ?_
            refine AN.takeG 5 rfl rfl (bT h30) rfl (by kernel_rfl) (by kernel_rfl) (by kernel_rfl) (hH28.sub (List.Sublist.refl _)) (fun w hS => run_move e7_22) ?_
            refine AN.takeG 6 rfl rfl (bT h30) rfl (by kernel_rfl) (by kernel_rfl) (by kernel_rfl) (hH28.sub (List.Sublist.refl _)) (fun w hS => run_move e8_22) ?_
            refine AN.one 7 (by kernel_rfl) ?_
            refine AO.callP rfl (gsome rfl (bT h30)) rfl hH28 (List.Sublist.refl _) (c_clearanceref03_Has _ _ _  _) (run_call3 Tryz.call61 rfl rfl rfl) ?_
            intro w31 hH32
            refine AN.take 8 rfl rfl (by kernel_rfl) (by kernel_rfl) (by kernel_rfl) (hH32.sub (List.Sublist.refl _)) (fun w hS => run_pickT (bT h30) (v := B _) rfl) ?_
            refine AN.take 9 rfl rfl (by kernel_rfl) (by kernel_rfl) (by kernel_rfl) (hH32.sub (List.Sublist.refl _)) (fun w hS => run_move (v := B _) rfl) ?_
            refine AN.split (dj := 40) rfl (fun h34 => ?_) (fun h34 => ?_)
            · refine AN.takeG 10 rfl rfl (bR (c := true) h34) rfl (by kernel_rfl) (by kernel_rfl) (by kernel_rfl) (hH32.sub (List.Sublist.refl _)) (fun w hS => run_move e8_22) ?_
              refine AN.takeG 11 rfl rfl (bR (c := true) h34) rfl (by kernel_rfl) (by kernel_rfl) (by kernel_rfl) (hH32.sub (List.Sublist.refl _)) (fun w hS => run_indexAddrA Tryz.underlying74 Tryz.sizeOf3 e4_22 rfl (by omega)) ?_
              refine AN.takeG 12 rfl rfl (bR (c := true) h34) rfl (by kernel_rfl) (by kernel_rfl) (by kernel_rfl) (hH32.sub (List.Sublist.refl _)) (fun w hS => run_ld Tryz.underlying3 rfl rfl (hS.cell (i := 0) rfl (arrC_at _ (by omega)))) ?_
              refine AN.takeG 13 rfl rfl (bR (c := true) h34) rfl (by kernel_rfl) (by kernel_rfl) (by kernel_rfl) (hH32.sub (List.Sublist.refl _)) (fun w hS => run_move e7_22) ?_
              refine AN.takeG 14 rfl rfl (bR (c := true) h34) rfl (by kernel_rfl) (by kernel_rfl) (by kernel_rfl) (hH32.sub (List.Sublist.refl _)) (fun w hS => run_indexAddrA Tryz.underlying74 Tryz.sizeOf3 e4_22 rfl (by omega)) ?_
              refine AN.takeG 15 rfl rfl (bR (c := true) h34) rfl (by kernel_rfl) (by kernel_rfl) (by kernel_rfl) (hH32.sub (List.Sublist.refl _)) (fun w hS => run_ld Tryz.underlying3 rfl rfl (hS.cell (i := 0) rfl (arrC_at _ (by omega)))) ?_
              refine AN.takeG 16 rfl rfl (bR (c := true) h34) rfl (by kernel_rfl) (by kernel_rfl) (by kernel_rfl) (hH32.sub (List.Sublist.refl _)) (fun w hS => run_leq rfl rfl) ?_
              refine AN.take 17 rfl rfl (by kernel_rfl) (by kernel_rfl) (by kernel_rfl) (hH32.sub (List.Sublist.refl _)) (fun w hS => run_pickT (bR (c := true) h34) (v := B _) rfl) ?_
              refine AN.done (by kernel_rfl) ?_
              refine CW.condP rfl (fun h36 => ?_) (fun h36 => ?_)
              · refine CW.region ?_
                refine RL.val rfl (run_move e8_22) ?_
                refine RL.val rfl (run_move e7_22) ?_
                refine RL.val rfl (run_indexAddrA Tryz.underlying74 Tryz.sizeOf3 e4_22 rfl (by omega)) ?_
                refine RL.val rfl (run_ld Tryz.underlying3 rfl rfl (hH32.cell (i := 0) rfl (arrC_at _ (by omega)))) ?_
                refine RL.val rfl (run_add rfl rfl (by first | omega | (have := far_bd hord hF (show 0 ≤ i by omega) (show i < pts r by omega); omega))) ?_
                refine RL.val rfl (run_indexAddrA Tryz.underlying74 Tryz.sizeOf3 e4_22 rfl (by omega)) ?_
                refine RL.set hH32 (i := 0) rfl (run_st rfl rfl (v := I _) rfl rfl rfl (hH32.blk (i := 0) rfl) (by rw [arrC_size]; omega)) ?_
                intro w37 hH38
                simp only [List.set_cons_zero, List.set_cons_succ] at hH38
                rw [arrC_put] at hH38
                refine RL.nil ?_
                refine CW.region ?_
                refine RL.val rfl (run_move e8_22) ?_
                refine RL.val rfl (run_add rfl rfl (by first | omega | (have := far_bd hord hF (show 0 ≤ i by omega) (show i < pts r by omega); omega))) ?_
                refine RL.val rfl (run_assign (v := I _) rfl) ?_
                refine RL.nil ?_
                refine ⟨(j + 1, _), ?_, ((((((((((((((((((((((((((((((fr22.u rfl).u rfl).u rfl).u rfl).u rfl).u rfl).u rfl).u rfl).u rfl).u rfl).u rfl).u rfl).u rfl).u rfl).u rfl).u rfl).u rfl).u rfl).u rfl).u rfl).u rfl).u rfl).u rfl).u rfl).u rfl).u rfl).u rfl).u rfl).u rfl).u rfl).u rfl, hH38, (congrArg I (by first | rfl | omega)), ?_, ?_, ?_, ?_, ?_, ?_⟩
                · ((try dsimp only); omega)
                · omega
                · omega
                · first | exact hF | exact far_put hF ‹hasR r i j = true› ‹_›
                · first | exact hge2 | exact hge2.put (by omega)
                · first | exact hall2 | exact hall2.put (by omega)
                · first | exact far_stepE hrow ‹_› | exact far_stepR hrow ‹_› | exact far_stepN hrow hge2 ‹_› | exact far_stepY hrow hge2 ‹_›
              · refine CW.skip ?_
                refine CW.region ?_
                refine RL.val rfl (run_move e8_22) ?_
                refine RL.val rfl (run_add rfl rfl (by first | omega | (have := far_bd hord hF (show 0 ≤ i by omega) (show i < pts r by omega); omega))) ?_
                refine RL.val rfl (run_assign (v := I _) rfl) ?_
                refine RL.nil ?_
                refine ⟨(j + 1, _), ?_, ((((((((((((((((((((((((fr22.u rfl).u rfl).u rfl).u rfl).u rfl).u rfl).u rfl).u rfl).u rfl).u rfl).u rfl).u rfl).u rfl).u rfl).u rfl).u rfl).u rfl).u rfl).u rfl).u rfl).u rfl).u rfl).u rfl).u rfl).u rfl, hH32, (congrArg I (by first | rfl | omega)), ?_, ?_, ?_, ?_, ?_, ?_⟩
                · ((try dsimp only); omega)
                · omega
                · omega
                · first | exact hF | exact far_put hF ‹hasR r i j = true› ‹_›
                · first | exact hge2 | exact hge2.put (by omega)
                · first | exact hall2 | exact hall2.put (by omega)
                · first | exact far_stepE hrow ‹_› | exact far_stepR hrow ‹_› | exact far_stepN hrow hge2 ‹_› | exact far_stepY hrow hge2 ‹_›
            · refine AN.skipG 10 rfl rfl (bR (c := false) h34) rfl rfl (by kernel_rfl) (by kernel_rfl) (by kernel_rfl) (hH32.sub (List.Sublist.refl _)) ?_
              refine AN.skipG 11 rfl rfl (bR (c := false) h34) rfl rfl (by kernel_rfl) (by kernel_rfl) (by kernel_rfl) (hH32.sub (List.Sublist.refl _)) ?_
              refine AN.skipG 12 rfl rfl (bR (c := false) h34) rfl rfl (by kernel_rfl) (by kernel_rfl) (by kernel_rfl) (hH32.sub (List.Sublist.refl _)) ?_
              refine AN.skipG 13 rfl rfl (bR (c := false) h34) rfl rfl (by kernel_rfl) (by kernel_rfl) (by kernel_rfl) (hH32.sub (List.Sublist.refl _)) ?_
              refine AN.skipG 14 rfl rfl (bR (c := false) h34) rfl rfl (by kernel_rfl) (by kernel_rfl) (by kernel_rfl) (hH32.sub (List.Sublist.refl _)) ?_
              refine AN.skipG 15 rfl rfl (bR (c := false) h34) rfl rfl (by kernel_rfl) (by kernel_rfl) (by kernel_rfl) (hH32.sub (List.Sublist.refl _)) ?_
              refine AN.skipG 16 rfl rfl (bR (c := false) h34) rfl rfl (by kernel_rfl) (by kernel_rfl) (by kernel_rfl) (hH32.sub (List.Sublist.refl _)) ?_
              refine AN.take 17 rfl rfl (by kernel_rfl) (by kernel_rfl) (by kernel_rfl) (hH32.sub (List.Sublist.refl _)) (fun w hS => run_pickF (bR (c := false) h34) (v := B false) rfl) ?_
              refine AN.done (by kernel_rfl) ?_
              refine CW.condF rfl ?_
              refine CW.skip ?_
              refine CW.region ?_
              refine RL.val rfl (run_move e8_22) ?_
              refine RL.val rfl (run_add rfl rfl (by first | omega | (have := far_bd hord hF (show 0 ≤ i by omega) (show i < pts r by omega); omega))) ?_
              refine RL.val rfl (run_assign (v := I _) rfl) ?_
              refine RL.nil ?_
              refine ⟨(j + 1, _), ?_, ((((((((((((((((((((((((fr22.u rfl).u rfl).u rfl).u rfl).u rfl).u rfl).u rfl).u rfl).u rfl).u rfl).u rfl).u rfl).u rfl).u rfl).u rfl).u rfl).u rfl).u rfl).u rfl).u rfl).u rfl).u rfl).u rfl).u rfl).u rfl, hH32, (congrArg I (by first | rfl | omega)), ?_, ?_, ?_, ?_, ?_, ?_⟩
              · ((try dsimp only); omega)
              · omega
              · omega
              · first | exact hF | exact far_put hF ‹hasR r i j = true› ‹_›
              · first | exact hge2 | exact hge2.put (by omega)
              · first | exact hall2 | exact hall2.put (by omega)
              · first | exact far_stepE hrow ‹_› | exact far_stepR hrow ‹_› | exact far_stepN hrow hge2 ‹_› | exact far_stepY hrow hge2 ‹_›
          · refine AN.skipG 4 rfl rfl (bF h30) rfl rfl (by kernel_rfl) (by kernel_rfl) (by kernel_rfl) (hH28.sub (List.Sublist.refl _)) ?_
            refine AN.skipG 5 rfl rfl (bF h30) rfl rfl (by kernel_rfl) (by kernel_rfl) (by kernel_rfl) (hH28.sub (List.Sublist.refl _)) ?_
            refine AN.skipG 6 rfl rfl (bF h30) rfl rfl (by kernel_rfl) (by kernel_rfl) (by kernel_rfl) (hH28.sub (List.Sublist.refl _)) ?_
            refine AN.skipG 7 rfl rfl (bF h30) rfl rfl (by kernel_rfl) (by kernel_rfl) (by kernel_rfl) (hH28.sub (List.Sublist.refl _)) ?_
            refine AN.take 8 rfl rfl (by kernel_rfl) (by kernel_rfl) (by kernel_rfl) (hH28.sub (List.Sublist.refl _)) (fun w hS => run_pickF (bF h30) (v := B false) rfl) ?_
            refine AN.take 9 rfl rfl (by kernel_rfl) (by kernel_rfl) (by kernel_rfl) (hH28.sub (List.Sublist.refl _)) (fun w hS => run_move (v := B _) rfl) ?_
            refine AN.skipG 10 rfl rfl rfl rfl rfl (by kernel_rfl) (by kernel_rfl) (by kernel_rfl) (hH28.sub (List.Sublist.refl _)) ?_
            refine AN.skipG 11 rfl rfl rfl rfl rfl (by kernel_rfl) (by kernel_rfl) (by kernel_rfl) (hH28.sub (List.Sublist.refl _)) ?_
            refine AN.skipG 12 rfl rfl rfl rfl rfl (by kernel_rfl) (by kernel_rfl) (by kernel_rfl) (hH28.sub (List.Sublist.refl _)) ?_
            refine AN.skipG 13 rfl rfl rfl rfl rfl (by kernel_rfl) (by kernel_rfl) (by kernel_rfl) (hH28.sub (List.Sublist.refl _)) ?_
            refine AN.skipG 14 rfl rfl rfl rfl rfl (by kernel_rfl) (by kernel_rfl) (by kernel_rfl) (hH28.sub (List.Sublist.refl _)) ?_
            refine AN.skipG 15 rfl rfl rfl rfl rfl (by kernel_rfl) (by kernel_rfl) (by kernel_rfl) (hH28.sub (List.Sublist.refl _)) ?_
            refine AN.skipG 16 rfl rfl rfl rfl rfl (by kernel_rfl) (by kernel_rfl) (by kernel_rfl) (hH28.sub (List.Sublist.refl _)) ?_
            refine AN.take 17 rfl rfl (by kernel_rfl) (by kernel_rfl) (by kernel_rfl) (hH28.sub (List.Sublist.refl _)) (fun w hS => run_pickF rfl (v := B false) rfl) ?_
            refine AN.done (by kernel_rfl) ?_
            refine CW.condF rfl ?_
            refine CW.skip ?_
            refine CW.region ?_
            refine RL.val rfl (run_move e8_22) ?_
            refine RL.val rfl (run_add rfl rfl (by first | omega | (have := far_bd hord hF (show 0 ≤ i by omega) (show i < pts r by omega); omega))) ?_
            refine RL.val rfl (run_assign (v := I _) rfl) ?_
            refine RL.nil ?_
            refine ⟨(j + 1, _), ?_, ((((((((((((((((((((((((fr22.u rfl).u rfl).u rfl).u rfl).u rfl).u rfl).u rfl).u rfl).u rfl).u rfl).u rfl).u rfl).u rfl).u rfl).u rfl).u rfl).u rfl).u rfl).u rfl).u rfl).u rfl).u rfl).u rfl).u rfl).u rfl, hH28, (congrArg I (by first | rfl | omega)), ?_, ?_, ?_, ?_, ?_, ?_⟩
            · ((try dsimp only); omega)
            · omega
            · omega
            · first | exact hF | exact far_put hF ‹hasR r i j = true› ‹_›
            · first | exact hge2 | exact hge2.put (by omega)
            · first | exact hall2 | exact hall2.put (by omega)
            · first | exact far_stepE hrow ‹_› | exact far_stepR hrow ‹_› | exact far_stepN hrow hge2 ‹_› | exact far_stepY hrow hge2 ‹_›
        · refine CW.exit (id := 4) rfl ?_
          refine CW.region ?_
          refine RL.val rfl (run_move e7_22) ?_
          refine RL.val rfl (run_add rfl rfl (by first | omega | (have := far_bd hord hF (show 0 ≤ i by omega) (show i < pts r by omega); omega))) ?_
          refine RL.val rfl (run_assign (v := I _) rfl) ?_
          refine RL.nil ?_
          refine ⟨(i + 1, _), ?_, (((((((((((((fr17.u rfl).u rfl).u rfl).u rfl).u rfl).t fr22 rfl)).u rfl).u rfl).u rfl).u rfl).u rfl).u rfl).u rfl, hH24, (congrArg I (by first | rfl | omega)), ?_, ?_, ?_, ?_, ?_⟩
          · ((try dsimp only); omega)
          · omega
          · omega
          · exact hF
          · exact hge2
          · exact hall2.next ‹_› hrow
      · refine CW.exit (id := 2) rfl ?_
        refine CW.region ?_
        refine RL.val rfl (run_move e6_17) ?_
        refine RL.val rfl (run_add rfl rfl (by first | omega | (have := far_bd hord hF (show 0 ≤ i by omega) (show i < pts r by omega); omega))) ?_
        refine RL.val rfl (run_assign (v := I _) rfl) ?_
        refine RL.nil ?_
        refine ⟨(k + 1, _), ?_, (((((((((((((fr12.u rfl).u rfl).u rfl).u rfl).u rfl).t fr17 rfl)).u rfl).u rfl).u rfl).u rfl).u rfl).u rfl).u rfl, hH19, (congrArg I (by first | rfl | omega)), ?_, ?_, ?_, ?_⟩
        · ((try dsimp only); omega)
        · omega
        · omega
        · exact hF1
        · exact far_upS k0 hU hge hall ‹_›
    · refine CW.exit (id := 0) rfl ?_
      refine CW.seq ?_
      refine CW.seq ?_
      refine CW.region ?_
      refine RL.val rfl (run_assign (v := I 0) rfl) ?_
      refine RL.nil ?_
      refine CW.block ?_
      refine CW.loop (G := (Int) × (Int)) (fun (⟨i, best⟩ : (Int) × (Int)) s' w' => (Fr [5, 9, 55, 56, 57, 58, 59, 60, 61, 62, 63, 64, 65, 66, 67, 68] _ s') ∧ (Hp w w' _) ∧ (s' 5 = I best) ∧ (s' 9 = I i) ∧ (0 ≤ i) ∧ (i ≤ pts r) ∧ (0 ≤ best) ∧ (best = 0 ∨ ∃ j : Int, 0 ≤ j ∧ j < pts r ∧ F j.toNat = best) ∧ (∀ j : Int, 0 ≤ j → j < i → F j.toNat ≤ best)) (fun (⟨i, best⟩ : (Int) × (Int)) => (pts r - i).toNat) ((0, 0)) ⟨Fr.refl _ _, hH14, e5_12, rfl, (by omega), (by omega), (by omega), Or.inl rfl, fun j a b => absurd b (by omega)⟩ ?_
      rintro ⟨i, best⟩ sg39 w39 ⟨fr39, hH39, e5_39, e9_39, i0, i1, b0, hb, hm⟩
      have e1_39 := (fr39 1 rfl).trans e1_12
      have e2_39 := (fr39 2 rfl).trans e2_12
      have e3_39 := (fr39 3 rfl).trans e3_12
      have e4_39 := (fr39 4 rfl).trans e4_12
      refine CW.seq ?_
      refine CW.seq ?_
      refine CW.region ?_
      refine RL.val rfl (run_move e9_39) ?_
      refine RL.val rfl (run_ldRel Tryz.underlying42 rfl rfl e1_39 (hH39.blk (i := 1) rfl)) ?_
      refine RL.callP rfl hH39 (c_clearanceref03_Points _  _) (run_call1 Tryz.call54 rfl) ?_
      intro w40 hH41
      refine RL.val rfl (run_lss rfl rfl) ?_
      refine RL.nil ?_
      refine CW.condP rfl (fun h43 => ?_) (fun h43 => ?_)
      · refine CW.skip ?_
        refine CW.seq ?_
        refine CW.block ?_
        refine CW.seq ?_
        refine CW.region ?_
        refine RL.val rfl (run_move e9_39) ?_
        refine RL.val rfl (run_indexAddrA Tryz.underlying74 Tryz.sizeOf3 e4_39 rfl (by omega)) ?_
        refine RL.val rfl (run_ld Tryz.underlying3 rfl rfl (hH41.cell (i := 0) rfl (arrC_at _ (by omega)))) ?_
        refine RL.val rfl (run_move e5_39) ?_
        refine RL.val rfl (run_gtr rfl rfl) ?_
        refine RL.nil ?_
        refine CW.condP rfl (fun h45 => ?_) (fun h45 => ?_)
        · refine CW.region ?_
          refine RL.val rfl (run_move e9_39) ?_
          refine RL.val rfl (run_indexAddrA Tryz.underlying74 Tryz.sizeOf3 e4_39 rfl (by omega)) ?_
          refine RL.val rfl (run_ld Tryz.underlying3 rfl rfl (hH41.cell (i := 0) rfl (arrC_at _ (by omega)))) ?_
          refine RL.val rfl (run_assign (v := I _) rfl) ?_
          refine RL.nil ?_
          refine CW.region ?_
          refine RL.val rfl (run_move e9_39) ?_
          refine RL.val rfl (run_add rfl rfl (by first | omega | (have := far_bd hord hF (show 0 ≤ i by omega) (show i < pts r by omega); omega))) ?_
          refine RL.val rfl (run_assign (v := I _) rfl) ?_
          refine RL.nil ?_
          refine ⟨(i + 1, _), ?_, (((((((((((((((fr39.u rfl).u rfl).u rfl).u rfl).u rfl).u rfl).u rfl).u rfl).u rfl).u rfl).u rfl).u rfl).u rfl).u rfl).u rfl).u rfl, hH41, (congrArg I (by first | rfl | omega)), (congrArg I (by first | rfl | omega)), ?_, ?_, ?_, ?_, ?_⟩
          · ((try dsimp only); omega)
          · omega
          · omega
          · omega
          · first | exact hb | exact .inr ⟨i, i0, by omega, rfl⟩
          · exact fun j u v => if e : j = i then (by rw [e]; omega) else (by have := hm j u (by omega); omega)
        · refine CW.skip ?_
          refine CW.region ?_
          refine RL.val rfl (run_move e9_39) ?_
          refine RL.val rfl (run_add rfl rfl (by first | omega | (have := far_bd hord hF (show 0 ≤ i by omega) (show i < pts r by omega); omega))) ?_
          refine RL.val rfl (run_assign (v := I _) rfl) ?_
          refine RL.nil ?_
          refine ⟨(i + 1, _), ?_, (((((((((((fr39.u rfl).u rfl).u rfl).u rfl).u rfl).u rfl).u rfl).u rfl).u rfl).u rfl).u rfl).u rfl, hH41, e5_39, (congrArg I (by first | rfl | omega)), ?_, ?_, ?_, ?_, ?_⟩
          · ((try dsimp only); omega)
          · omega
          · omega
          · omega
          · first | exact hb | exact .inr ⟨i, i0, by omega, rfl⟩
          · exact fun j u v => if e : j = i then (by rw [e]; omega) else (by have := hm j u (by omega); omega)
      · refine CW.exit (id := 6) rfl ?_
        refine CW.seq ?_
        refine CW.region ?_
        refine RL.val rfl (run_move e5_39) ?_
        refine RL.val rfl (run_assign (v := I _) rfl) ?_
        refine RL.val rfl (run_assign (v := B true) rfl) ?_
        refine RL.nil ?_
        refine CW.ret ?_
        refine outP2 Tryz.results40 (congrArg I ?_) (congrArg B ?_) hH41.below <;> rw [long_ref hord hF0 hU ‹¬ k < pts r› ‹¬ i < pts r› hb hm b0]

theorem c_hasse_in (r : Rl) (i : Int) (w : World) : Calls Tryz.prog 119 #[.agg (relC r), I i] w (Pure (B (isP r i)) w) := by
  have hp := pts_bd r
  have hnn : (newR r.n).n = pts r := rfl
  refine enter Tryz.func119 rfl Tryz.ntmps119 rfl ?_
  have hH := Hp.start w
  refine CW.seq ?_
  refine CW.region ?_
  refine RL.new rfl hH (f := fun b => (.pointer (some ⟨b, 0, none⟩))) (run_box (v := .agg _) rfl) ?_
  intro b3 w1 hH2
  refine RL.val rfl (run_assign (v := B false) rfl) ?_
  refine RL.nil ?_
  refine CW.seq ?_
  refine CW.region ?_
  refine RL.val rfl (run_move (v := I _) rfl) ?_
  refine RL.val rfl (run_geq rfl rfl) ?_
  refine RL.val rfl (run_move (v := B _) rfl) ?_
  refine RL.splitP (dj := 7) rfl (fun h5 => ?_) (fun h5 => ?_)
  · refine RL.gT rfl (bT h5) ?_
    refine RL.val rfl (run_move (v := I _) rfl) ?_
    refine RL.gT rfl (bT h5) ?_
    refine RL.val rfl (run_fieldAddr Tryz.underlying42 rfl (off := 0) rfl Tryz.sizeOf3 (by decide) rfl) ?_
    refine RL.gT rfl (bT h5) ?_
    refine RL.val rfl (run_ld Tryz.underlying3 rfl rfl (hH2.cell (i := 0) rfl (relC_N _))) ?_
    refine RL.gT rfl (bT h5) ?_
    refine RL.callP rfl hH2 (c_relate_New _  _) (run_call1 Tryz.call106 rfl) ?_
    intro w6 hH7
    refine RL.gT rfl (bT h5) ?_
    refine RL.val rfl (run_field Tryz.underlying42 rfl Tryz.isAgg3 rfl (relC_N _)) ?_
    refine RL.gT rfl (bT h5) ?_
    refine RL.val rfl (run_lss rfl rfl) ?_
    refine RL.val rfl (run_pickT (bT h5) (v := B _) rfl) ?_
    refine RL.val rfl (run_assign (v := B _) rfl) ?_
    refine RL.nil ?_
    refine CW.ret ?_
    refine outP1 Tryz.results119 (congrArg B ?_) hH7.below
    (rw [isP, Bool.eq_iff_iff]; simp only [decide_eq_true_eq, Bool.false_eq_true, false_iff]; omega)
  · refine RL.gF rfl rfl (bF h5) rfl ?_
    refine RL.gF rfl rfl (bF h5) rfl ?_
    refine RL.gF rfl rfl (bF h5) rfl ?_
    refine RL.gF rfl rfl (bF h5) rfl ?_
    refine RL.gF rfl rfl (bF h5) rfl ?_
    refine RL.gF rfl rfl (bF h5) rfl ?_
    refine RL.val rfl (run_pickF (bF h5) (v := B false) rfl) ?_
    refine RL.val rfl (run_assign (v := B _) rfl) ?_
    refine RL.nil ?_
    refine CW.ret ?_
    refine outP1 Tryz.results119 (congrArg B ?_) hH2.below
    (rw [isP, Bool.eq_iff_iff]; simp only [decide_eq_true_eq, Bool.false_eq_true, false_iff]; omega)

theorem c_hasse_above (r : Rl) (i : Int) (w : World) (hT : Tab w) : Calls Tryz.prog 94 #[.agg (relC r), I i] w (Pure (U (aboveR r i)) w) := by
  refine enter Tryz.func94 rfl Tryz.ntmps94 rfl ?_
  have hH := Hp.start w
  refine CW.seq ?_
  refine CW.region ?_
  refine RL.new rfl hH (f := fun b => (.pointer (some ⟨b, 0, none⟩))) (run_box (v := .agg _) rfl) ?_
  intro b3 w1 hH2
  refine RL.val rfl (run_assign (v := U 0#64) rfl) ?_
  refine RL.nil ?_
  refine CW.seq ?_
  refine CW.regionD (by kernel_rfl) hH2 ?_
  intro w4 hH5
  refine AN.take 0 rfl rfl (by kernel_rfl) (by kernel_rfl) (by kernel_rfl) (hH5.sub (List.Sublist.refl _)) (fun w hS => run_ldRel Tryz.underlying42 rfl rfl rfl (hS.blk (i := 0) rfl)) ?_
  refine AN.take 1 rfl rfl (by kernel_rfl) (by kernel_rfl) (by kernel_rfl) (hH5.sub (List.Sublist.refl _)) (fun w hS => run_move (v := I _) rfl) ?_
  refine AN.one 2 (by kernel_rfl) ?_
  refine AO.new rfl gnone rfl hH5 (List.Sublist.refl _) (f := fun b => .slice (some ⟨b, 0, none⟩) 1 1) (run_mkL Tryz.underlying72 rfl rfl (sz := 1) (vs := [I _]) rfl rfl (by decide) (by decide) rfl rfl) ?_
  intro b8 w6 hH7
  (try simp only [List.flatMap_cons, List.flatMap_nil, clI, clB, clS, clP, clL, clA, List.append_nil, List.cons_append, List.nil_append] at hH7)
  refine AN.one 3 (by kernel_rfl) ?_
  refine AO.callP rfl gnone rfl hH7 (.cons _ (List.Sublist.refl _)) (c_mask_Of _ [i] _ (hH7.slBlk (i := 0) (n := 1) (sz := 1) rfl rfl (by decide))) (run_call1 Tryz.call117 rfl) ?_
  intro w9 hH10
  refine AN.one 4 (by kernel_rfl) ?_
  refine AO.callP rfl gnone rfl hH10 (.cons _ (List.Sublist.refl _)) (c_relate_Up _ _  _ (hT.hp hH10)) (run_call2 Tryz.call118 rfl rfl) ?_
  intro w11 hH12
  refine AN.take 5 rfl rfl (by kernel_rfl) (by kernel_rfl) (by kernel_rfl) (hH12.sub (.cons _ (List.Sublist.refl _))) (fun w hS => run_assign (v := U _) rfl) ?_
  refine AN.done (by kernel_rfl) ?_
  refine CW.ret ?_
  refine outP1 Tryz.results94 (congrArg U ?_) hH12.below
  rfl

theorem c_hasse_below (r : Rl) (i : Int) (w : World) (hT : Tab w) : Calls Tryz.prog 95 #[.agg (relC r), I i] w (Pure (U (belowR r i)) w) := by
  refine enter Tryz.func95 rfl Tryz.ntmps95 rfl ?_
  have hH := Hp.start w
  refine CW.seq ?_
  refine CW.region ?_
  refine RL.new rfl hH (f := fun b => (.pointer (some ⟨b, 0, none⟩))) (run_box (v := .agg _) rfl) ?_
  intro b3 w1 hH2
  refine RL.val rfl (run_assign (v := U 0#64) rfl) ?_
  refine RL.nil ?_
  refine CW.seq ?_
  refine CW.seq ?_
  refine CW.region ?_
  refine RL.val rfl (run_ldRel Tryz.underlying42 rfl rfl rfl (hH2.blk (i := 0) rfl)) ?_
  refine RL.val rfl (run_move (v := I _) rfl) ?_
  refine RL.callP rfl hH2 (c_hasse_in _ _  _) (run_call2 Tryz.call119 rfl rfl) ?_
  intro w4 hH5
  refine RL.val rfl (run_not rfl) ?_
  refine RL.nil ?_
  refine CW.cond rfl (fun h8 => ?_) (fun h8 => ?_)
  · refine CW.seq ?_
    refine CW.region ?_
    refine RL.val rfl (run_assign (v := U 0#64) rfl) ?_
    refine RL.nil ?_
    refine CW.ret ?_
    refine outP1 Tryz.results95 (congrArg U ?_) hH5.below
    first | rw [belowR, if_neg (by simpa using ‹(!isP r i) = true›)] | rw [belowR, if_pos (by simpa using ‹(!isP r i) = false›)]
  · refine CW.skip ?_
    refine CW.seq ?_
    refine CW.regionD (by kernel_rfl) hH5 ?_
    intro w9 hH10
    refine AN.take 0 rfl rfl (by kernel_rfl) (by kernel_rfl) (by kernel_rfl) (hH10.sub (List.Sublist.refl _)) (fun w hS => run_ldRel Tryz.underlying42 rfl rfl rfl (hS.blk (i := 0) rfl)) ?_
    refine AN.take 1 rfl rfl (by kernel_rfl) (by kernel_rfl) (by kernel_rfl) (hH10.sub (List.Sublist.refl _)) (fun w hS => run_move (v := I _) rfl) ?_
    refine AN.one 2 (by kernel_rfl) ?_
    refine AO.new rfl gnone rfl hH10 (List.Sublist.refl _) (f := fun b => .slice (some ⟨b, 0, none⟩) 1 1) (run_mkL Tryz.underlying72 rfl rfl (sz := 1) (vs := [I _]) rfl rfl (by decide) (by decide) rfl rfl) ?_
    intro b13 w11 hH12
    (try simp only [List.flatMap_cons, List.flatMap_nil, clI, clB, clS, clP, clL, clA, List.append_nil, List.cons_append, List.nil_append] at hH12)
    refine AN.one 3 (by kernel_rfl) ?_
    refine AO.callP rfl gnone rfl hH12 (.cons _ (List.Sublist.refl _)) (c_mask_Of _ [i] _ (hH12.slBlk (i := 0) (n := 1) (sz := 1) rfl rfl (by decide))) (run_call1 Tryz.call117 rfl) ?_
    intro w14 hH15
    refine AN.one 4 (by kernel_rfl) ?_
    refine AO.callP rfl gnone rfl hH15 (.cons _ (List.Sublist.refl _)) (c_relate_Down _ _  _) (run_call2 Tryz.call120 rfl rfl) ?_
    intro w16 hH17
    refine AN.take 5 rfl rfl (by kernel_rfl) (by kernel_rfl) (by kernel_rfl) (hH17.sub (.cons _ (List.Sublist.refl _))) (fun w hS => run_assign (v := U _) rfl) ?_
    refine AN.done (by kernel_rfl) ?_
    refine CW.ret ?_
    refine outP1 Tryz.results95 (congrArg U ?_) hH17.below
    first | rw [belowR, if_neg (by simpa using ‹(!isP r i) = true›)] | rw [belowR, if_pos (by simpa using ‹(!isP r i) = false›)]

theorem c_hasse_nearest (r : Rl) (i j : Int) (f : FuncId) (gg : Int → BitVec 64) (w : World) (hf : ∀ args w, (callFunc f args).run Tryz.prog w = .ok (.enter f args) w) (go : ∀ i w, Tab w → Calls Tryz.prog f #[.agg (relC r), I i] w (Pure (U (gg i)) w)) (hn : ∀ u, hasB (gg i &&& gg j) u = true → u < pts r) (hT : Tab w) : Calls Tryz.prog 109 #[.agg (relC r), I i, I j, .func (.func f) #[] #[]] w (Pure (.tuple #[I (nearV gg (pts r) i j).1, B (nearV gg (pts r) i j).2]) w) := by
  have hl := lst_len (gg i &&& gg j)
  refine enter Tryz.func109 rfl Tryz.ntmps109 rfl ?_
  have hH := Hp.start w
  refine CW.seq ?_
  refine CW.region ?_
  refine RL.new rfl hH (f := fun b => (.pointer (some ⟨b, 0, none⟩))) (run_box (v := .agg _) rfl) ?_
  intro b3 w1 hH2
  refine RL.val rfl (run_assign (v := I 0) rfl) ?_
  refine RL.val rfl (run_assign (v := B false) rfl) ?_
  refine RL.nil ?_
  refine CW.seq ?_
  refine CW.regionD (by kernel_rfl) hH2 ?_
  intro w4 hH5
  refine AN.take 0 rfl rfl (by kernel_rfl) (by kernel_rfl) (by kernel_rfl) (hH5.sub (List.Sublist.refl _)) (fun w hS => run_move (v := .func _ _ _) rfl) ?_
  refine AN.take 1 rfl rfl (by kernel_rfl) (by kernel_rfl) (by kernel_rfl) (hH5.sub (List.Sublist.refl _)) (fun w hS => run_ldRel Tryz.underlying42 rfl rfl rfl (hS.blk (i := 0) rfl)) ?_
  refine AN.take 2 rfl rfl (by kernel_rfl) (by kernel_rfl) (by kernel_rfl) (hH5.sub (List.Sublist.refl _)) (fun w hS => run_move (v := I _) rfl) ?_
  refine AN.take 4 rfl rfl (by kernel_rfl) (by kernel_rfl) (by kernel_rfl) (hH5.sub (List.Sublist.refl _)) (fun w hS => run_move (v := .func _ _ _) rfl) ?_
  refine AN.take 5 rfl rfl (by kernel_rfl) (by kernel_rfl) (by kernel_rfl) (hH5.sub (List.Sublist.refl _)) (fun w hS => run_ldRel Tryz.underlying42 rfl rfl rfl (hS.blk (i := 0) rfl)) ?_
  refine AN.take 6 rfl rfl (by kernel_rfl) (by kernel_rfl) (by kernel_rfl) (hH5.sub (List.Sublist.refl _)) (fun w hS => run_move (v := I _) rfl) ?_
  refine AN.one 3 (by kernel_rfl) ?_
  refine AO.callP rfl gnone rfl hH5 (List.Sublist.refl _) (go _ _ (hT.hp hH5)) (run_callC2 hf (cs := []) rfl rfl rfl) ?_
  intro w6 hH7
  refine AN.one 7 (by kernel_rfl) ?_
  refine AO.callP rfl gnone rfl hH7 (List.Sublist.refl _) (go _ _ (hT.hp hH7)) (run_callC2 hf (cs := []) rfl rfl rfl) ?_
  intro w8 hH9
  refine AN.take 8 rfl rfl (by kernel_rfl) (by kernel_rfl) (by kernel_rfl) (hH9.sub (List.Sublist.refl _)) (fun w hS => run_andU rfl rfl) ?_
  refine AN.take 9 rfl rfl (by kernel_rfl) (by kernel_rfl) (by kernel_rfl) (hH9.sub (List.Sublist.refl _)) (fun w hS => run_assign (v := U _) rfl) ?_
  refine AN.done (by kernel_rfl) ?_
  refine CW.seq ?_
  refine CW.seq ?_
  refine CW.region ?_
  refine RL.val rfl (run_move (v := U _) rfl) ?_
  refine RL.callR rfl hH9 (c_mask_List _  _ (hT.hp hH9)) (run_call1 Tryz.call101 rfl) ?_
  intro v12 w10 hH11
  refine RL.val rfl (run_lenSl (hH11.sl (i := 0) rfl) rfl Tryz.underlying72 rfl) ?_
  refine RL.val rfl (run_move (v := I 0) rfl) ?_
  refine RL.nil ?_
  refine CW.block ?_
  refine CW.loop (G := (Int)) (fun (a : Int) s' w' => (Fr [8, 9, 12, 25, 26, 27, 28, 29, 30, 31, 32, 33, 34, 35, 36] _ s') ∧ (Hp w w' _) ∧ (s' 25 = I a) ∧ (0 ≤ a) ∧ (a ≤ (lst (gg i &&& gg j)).length) ∧ (∀ b : Int, 0 ≤ b → b < a → subB (gg i &&& gg j) (gg ((lst (gg i &&& gg j)).getD b.toNat 0)) = false)) (fun (a : Int) => ((lst (gg i &&& gg j)).length - a).toNat) (0) ⟨Fr.refl _ _, hH11, rfl, (by omega), (by omega), fun b x y => absurd y (by omega)⟩ ?_
  rintro a sg13 w13 ⟨fr13, hH13, e25_13, a0, a1, hg⟩
  have e3_13 : sg13 3 = .func _ _ _ := (fr13 3 rfl).trans rfl
  have e4_13 : sg13 4 = .pointer (some ⟨_, _, none⟩) := (fr13 4 rfl).trans rfl
  have e10_13 : sg13 10 = U _ := (fr13 10 rfl).trans rfl
  have e23_13 := (fr13 23 rfl).trans (by conv => lhs; whnf)
  have e24_13 : sg13 24 = I _ := (fr13 24 rfl).trans rfl
  refine CW.seq ?_
  refine CW.region ?_
  refine RL.val rfl (run_lss e25_13 e24_13) ?_
  refine RL.nil ?_
  refine CW.seq ?_
  refine CW.condP rfl (fun h15 => ?_) (fun h15 => ?_)
  · refine CW.skip ?_
    refine CW.seq ?_
    refine CW.block ?_
    refine CW.seq ?_
    refine CW.region ?_
    refine RL.val rfl (run_indexAddrS (hH13.sl (i := 0) rfl) Tryz.underlying72 Tryz.sizeOf3 e23_13 e25_13 (by omega)) ?_
    refine RL.val rfl (run_ld Tryz.underlying3 rfl rfl ((hH13.sl (i := 0) rfl).cell _ _ (map_at (by omega)))) ?_
    refine RL.val rfl (run_assign (v := I _) rfl) ?_
    refine RL.nil ?_
    refine CW.seq ?_
    refine CW.region ?_
    refine RL.val rfl (run_move e10_13) ?_
    refine RL.val rfl (run_move e3_13) ?_
    refine RL.val rfl (run_ldRel Tryz.underlying42 rfl rfl e4_13 (hH13.blk (i := 1) rfl)) ?_
    refine RL.val rfl (run_move (v := I _) rfl) ?_
    refine RL.callP rfl hH13 (go _ _ (hT.hp hH13)) (run_callC2 hf (cs := []) rfl rfl rfl) ?_
    intro w16 hH17
    refine RL.callP rfl hH17 (c_mask_Sub _ _  _) (run_call2 Tryz.call43 rfl rfl) ?_
    intro w18 hH19
    refine RL.nil ?_
    refine CW.cond rfl (fun h21 => ?_) (fun h21 => ?_)
    · refine CW.seq ?_
      refine CW.region ?_
      refine RL.val rfl (run_move (v := I _) rfl) ?_
      refine RL.val rfl (run_assign (v := I _) rfl) ?_
      refine RL.val rfl (run_assign (v := B true) rfl) ?_
      refine RL.nil ?_
      refine CW.ret ?_
      refine outP2 Tryz.results109 (congrArg I ?_) (congrArg B ?_) hH19.below <;> rw [near_yes hn a0 ‹_› ‹_› hg]
    · refine CW.skip ?_
      refine CW.region ?_
      refine RL.val rfl (run_add e25_13 rfl (by omega)) ?_
      refine RL.val rfl (run_move (v := I _) rfl) ?_
      refine RL.nil ?_
      refine ⟨a + 1, ?_, (((((((((((fr13.u rfl).u rfl).u rfl).u rfl).u rfl).u rfl).u rfl).u rfl).u rfl).u rfl).u rfl).u rfl, hH19, (congrArg I (by first | rfl | omega)), ?_, ?_, ?_⟩
      · ((try dsimp only); omega)
      · omega
      · omega
      · exact fun b x y => if e : b = a then e ▸ ‹_› else hg b x (by omega)
  · refine CW.exit (id := 0) rfl ?_
    refine CW.seq ?_
    refine CW.region ?_
    refine RL.val rfl (run_assign (v := I 0) rfl) ?_
    refine RL.val rfl (run_assign (v := B false) rfl) ?_
    refine RL.nil ?_
    refine CW.ret ?_
    refine outP2 Tryz.results109 (congrArg I ?_) (congrArg B ?_) hH13.below <;> rw [near_no ‹_› hg]

theorem c_hasse_Join (r : Rl) (i j : Int) (w : World) (hT : Tab w) : Calls Tryz.prog 79 #[.agg (relC r), I i, I j] w (Pure (.tuple #[I (joinV r i j).1, B (joinV r i j).2]) w) := by
  refine enter Tryz.func79 rfl Tryz.ntmps79 rfl ?_
  have hH := Hp.start w
  refine CW.seq ?_
  refine CW.region ?_
  refine RL.new rfl hH (f := fun b => (.pointer (some ⟨b, 0, none⟩))) (run_box (v := .agg _) rfl) ?_
  intro b3 w1 hH2
  refine RL.val rfl (run_assign (v := I 0) rfl) ?_
  refine RL.val rfl (run_assign (v := B false) rfl) ?_
  refine RL.nil ?_
  refine CW.seq ?_
  refine CW.region ?_
  refine RL.val rfl (run_ldRel Tryz.underlying42 rfl rfl rfl (hH2.blk (i := 0) rfl)) ?_
  refine RL.val rfl (run_move (v := I _) rfl) ?_
  refine RL.val rfl (run_move (v := I _) rfl) ?_
  refine RL.callP rfl hH2 (c_hasse_nearest r i j 94 (aboveR r) _ Tryz.call94 (fun i w h => c_hasse_above r i w h) (fun u h => above_in h) (hT.hp hH2)) (run_call4 Tryz.call109 rfl rfl rfl rfl) ?_
  intro w4 hH5
  refine RL.val rfl (run_extract rfl (v := I _) rfl) ?_
  refine RL.val rfl (run_extract rfl (v := B _) rfl) ?_
  refine RL.val rfl (run_assign (v := I _) rfl) ?_
  refine RL.val rfl (run_assign (v := B _) rfl) ?_
  refine RL.nil ?_
  refine CW.ret ?_
  refine outP2 Tryz.results79 (congrArg I ?_) (congrArg B ?_) hH5.below
  all_goals rfl

theorem c_hasse_Meet (r : Rl) (i j : Int) (w : World) (hT : Tab w) : Calls Tryz.prog 86 #[.agg (relC r), I i, I j] w (Pure (.tuple #[I (meetV r i j).1, B (meetV r i j).2]) w) := by
  refine enter Tryz.func86 rfl Tryz.ntmps86 rfl ?_
  have hH := Hp.start w
  refine CW.seq ?_
  refine CW.region ?_
  refine RL.new rfl hH (f := fun b => (.pointer (some ⟨b, 0, none⟩))) (run_box (v := .agg _) rfl) ?_
  intro b3 w1 hH2
  refine RL.val rfl (run_assign (v := I 0) rfl) ?_
  refine RL.val rfl (run_assign (v := B false) rfl) ?_
  refine RL.nil ?_
  refine CW.seq ?_
  refine CW.region ?_
  refine RL.val rfl (run_ldRel Tryz.underlying42 rfl rfl rfl (hH2.blk (i := 0) rfl)) ?_
  refine RL.val rfl (run_move (v := I _) rfl) ?_
  refine RL.val rfl (run_move (v := I _) rfl) ?_
  refine RL.callP rfl hH2 (c_hasse_nearest r i j 95 (belowR r) _ Tryz.call95 (fun i w h => c_hasse_below r i w h) (fun u h => below_inR h) (hT.hp hH2)) (run_call4 Tryz.call109 rfl rfl rfl rfl) ?_
  intro w4 hH5
  refine RL.val rfl (run_extract rfl (v := I _) rfl) ?_
  refine RL.val rfl (run_extract rfl (v := B _) rfl) ?_
  refine RL.val rfl (run_assign (v := I _) rfl) ?_
  refine RL.val rfl (run_assign (v := B _) rfl) ?_
  refine RL.nil ?_
  refine CW.ret ?_
  refine outP2 Tryz.results86 (congrArg I ?_) (congrArg B ?_) hH5.below
  all_goals rfl

theorem c_hasse_Word (r : Rl) (i : Int) (w : World) (hT : Tab w) : Calls Tryz.prog 60 #[.agg (relC r), I i] w (Pure (U (belowR r i)) w) := by
  refine enter Tryz.func60 rfl Tryz.ntmps60 rfl ?_
  have hH := Hp.start w
  refine CW.seq ?_
  refine CW.region ?_
  refine RL.new rfl hH (f := fun b => (.pointer (some ⟨b, 0, none⟩))) (run_box (v := .agg _) rfl) ?_
  intro b3 w1 hH2
  refine RL.val rfl (run_assign (v := U 0#64) rfl) ?_
  refine RL.nil ?_
  refine CW.seq ?_
  refine CW.region ?_
  refine RL.val rfl (run_ldRel Tryz.underlying42 rfl rfl rfl (hH2.blk (i := 0) rfl)) ?_
  refine RL.val rfl (run_move (v := I _) rfl) ?_
  refine RL.callP rfl hH2 (c_hasse_below _ _  _ (hT.hp hH2)) (run_call2 Tryz.call95 rfl rfl) ?_
  intro w4 hH5
  refine RL.val rfl (run_assign (v := U _) rfl) ?_
  refine RL.nil ?_
  refine CW.ret ?_
  refine outP1 Tryz.results60 (congrArg U ?_) hH5.below
  rfl

theorem c_hasse_Point (r : Rl) (s : BitVec 64) (w : World) (hT : Tab w) : Calls Tryz.prog 73 #[.agg (relC r), U s] w (Pure (.tuple #[I (pointV r s).1, B (pointV r s).2]) w) := by
  have hp := pts_bd r
  have hnn : (newR r.n).n = pts r := rfl
  refine enter Tryz.func73 rfl Tryz.ntmps73 rfl ?_
  have hH := Hp.start w
  refine CW.seq ?_
  refine CW.region ?_
  refine RL.new rfl hH (f := fun b => (.pointer (some ⟨b, 0, none⟩))) (run_box (v := .agg _) rfl) ?_
  intro b3 w1 hH2
  refine RL.val rfl (run_assign (v := I 0) rfl) ?_
  refine RL.val rfl (run_assign (v := B false) rfl) ?_
  refine RL.nil ?_
  refine CW.seq ?_
  refine CW.seq ?_
  refine CW.region ?_
  refine RL.val rfl (run_fieldAddr Tryz.underlying42 rfl (off := 0) rfl Tryz.sizeOf3 (by decide) rfl) ?_
  refine RL.val rfl (run_ld Tryz.underlying3 rfl rfl (hH2.cell (i := 0) rfl (relC_N _))) ?_
  refine RL.callP rfl hH2 (c_relate_New _  _) (run_call1 Tryz.call106 rfl) ?_
  intro w4 hH5
  refine RL.val rfl (run_field Tryz.underlying42 rfl Tryz.isAgg3 rfl (relC_N _)) ?_
  refine RL.val rfl (run_move (v := I 0) rfl) ?_
  refine RL.nil ?_
  refine CW.block ?_
  refine CW.loop (G := (Int)) (fun (k : Int) s' w' => (Fr [4, 5, 6, 11, 12, 13, 14, 15, 16, 17, 18, 19, 20] _ s') ∧ (Hp w w' _) ∧ (s' 11 = I k) ∧ (0 ≤ k) ∧ (k ≤ pts r) ∧ (∀ j : Int, 0 ≤ j → j < k → belowR r j ≠ s)) (fun (k : Int) => (pts r - k).toNat) (0) ⟨Fr.refl _ _, hH5, rfl, (by omega), (by omega), fun j x y => absurd y (by omega)⟩ ?_
  rintro k sg6 w6 ⟨fr6, hH6, e11_6, h0, hk, hg⟩
  have e1_6 : sg6 1 = U _ := (fr6 1 rfl).trans rfl
  have e2_6 : sg6 2 = .pointer (some ⟨_, _, none⟩) := (fr6 2 rfl).trans rfl
  have e10_6 : sg6 10 = I _ := (fr6 10 rfl).trans rfl
  refine CW.seq ?_
  refine CW.region ?_
  refine RL.val rfl (run_lss e11_6 e10_6) ?_
  refine RL.nil ?_
  refine CW.seq ?_
  refine CW.condP rfl (fun h8 => ?_) (fun h8 => ?_)
  · refine CW.skip ?_
    refine CW.seq ?_
    refine CW.block ?_
    refine CW.seq ?_
    refine CW.region ?_
    refine RL.val rfl (run_move e11_6) ?_
    refine RL.val rfl (run_assign (v := I _) rfl) ?_
    refine RL.nil ?_
    refine CW.seq ?_
    refine CW.region ?_
    refine RL.val rfl (run_ldRel Tryz.underlying42 rfl rfl e2_6 (hH6.blk (i := 0) rfl)) ?_
    refine RL.val rfl (run_move (v := I _) rfl) ?_
    refine RL.callP rfl hH6 (c_hasse_Word _ _  _ (hT.hp hH6)) (run_call2 Tryz.call60 rfl rfl) ?_
    intro w9 hH10
    refine RL.val rfl (run_move e1_6) ?_
    refine RL.val rfl (run_eqlU rfl rfl) ?_
    refine RL.nil ?_
    refine CW.condP rfl (fun h12 => ?_) (fun h12 => ?_)
    · refine CW.seq ?_
      refine CW.region ?_
      refine RL.val rfl (run_move (v := I _) rfl) ?_
      refine RL.val rfl (run_assign (v := I _) rfl) ?_
      refine RL.val rfl (run_assign (v := B true) rfl) ?_
      refine RL.nil ?_
      refine CW.ret ?_
      refine outP2 Tryz.results73 (congrArg I ?_) (congrArg B ?_) hH10.below <;> rw [point_yes h0 (by omega) ‹_› hg]
    · refine CW.skip ?_
      refine CW.region ?_
      refine RL.val rfl (run_add e11_6 rfl (by omega)) ?_
      refine RL.val rfl (run_move (v := I _) rfl) ?_
      refine RL.nil ?_
      refine ⟨k + 1, ?_, (((((((((fr6.u rfl).u rfl).u rfl).u rfl).u rfl).u rfl).u rfl).u rfl).u rfl).u rfl, hH10, (congrArg I (by first | rfl | omega)), ?_, ?_, ?_⟩
      · ((try dsimp only); omega)
      · omega
      · omega
      · exact fun j x y => if e : j = k then e ▸ ‹¬ belowR r k = s› else hg j x (by omega)
  · refine CW.exit (id := 0) rfl ?_
    refine CW.seq ?_
    refine CW.region ?_
    refine RL.val rfl (run_assign (v := I 0) rfl) ?_
    refine RL.val rfl (run_assign (v := B false) rfl) ?_
    refine RL.nil ?_
    refine CW.ret ?_
    refine outP2 Tryz.results73 (congrArg I ?_) (congrArg B ?_) hH6.below <;> rw [point_no (by omega) hg]

end Go.Proofs.YtgmdjomdmfcpnaaGreatDoor.W
