/-
  The walks of the functions that the laws of this seat reach, part 1: each returns what its plain counterpart tells, and turns nothing that was there.
-/
import Derived.Test.YtiaifdnlkdcbiaaDoorProg
import Derived.Test.YtiaifdnlkdcbiaaDoorEnv
import Derived.Test.YtiaifdnlkdcbiaaDoorPlain
import Derived.Test.YtiaifdnlkdcbiaaDoorBase
import Derived.Test.YtiaifdnlkdcbiaaDoorOrd
import Derived.Test.YtiaifdnlkdcbiaaDoorRel
import Derived.Test.YtiaifdnlkdcbiaaDoorClo
import Derived.Test.YtiaifdnlkdcbiaaDoorCov
import Derived.Test.YtiaifdnlkdcbiaaDoorArr
import Derived.Test.YtiaifdnlkdcbiaaDoorHas
import Derived.Test.YtiaifdnlkdcbiaaDoorGrd
import Derived.Test.YtiaifdnlkdcbiaaDoorStr
import Derived.Test.YtiaifdnlkdcbiaaDoorVu
import Derived.Test.YtiaifdnlkdcbiaaDoorShp
import Derived.Test.YtiaifdnlkdcbiaaDoorShl
import Derived.Test.YtiaifdnlkdcbiaaDoorShq
import Derived.Test.YtiaifdnlkdcbiaaDoorShr
import Derived.Test.YtiaifdnlkdcbiaaDoorCut
import Derived.Test.YtiaifdnlkdcbiaaDoorRec
import Derived.Test.YtiaifdnlkdcbiaaDoorScp
import Derived.Test.YtiaifdnlkdcbiaaDoorScq
import Derived.Test.YtiaifdnlkdcbiaaDoorScj
import Derived.Test.YtiaifdnlkdcbiaaDoorJdg
import Derived.Test.YtiaifdnlkdcbiaaDoorFlt
import Derived.Test.YtiaifdnlkdcbiaaDoorAdd
import Derived.Test.YtiaifdnlkdcbiaaDoorRgt
import Derived.Test.YtiaifdnlkdcbiaaDoorAlv
import Derived.Test.YtiaifdnlkdcbiaaDoorKee
import Derived.Test.YtiaifdnlkdcbiaaDoorMin
namespace Go.Proofs.YtiaifdnlkdcbiaaDoor.W
open Go Go.RowKit Go.Proofs.YtiaifdnlkdcbiaaDoor.E Go.Proofs.YtiaifdnlkdcbiaaDoor.M
set_option linter.unusedVariables false
set_option linter.unusedSimpArgs false
set_option maxRecDepth 100000
open Tryd

theorem zero_rel : ∀ w, (zeroValue 73).run Tryd.prog w = .ok (.agg (relC Rl.none)) w := fun w => by
  rw [relC_def]; exact Tryd.zeroValue73 w
theorem built_rel (a : Int) : Tryd.prog.built 73 [(0, I a)] = some (relC ⟨a, fun _ => 0#64⟩) := by
  rw [relC_def]; rfl
theorem relT_fields : Tryd.prog.fieldsOf 73 = #[{ name := "N", type := 3, offset := 0, embedded := false, tag := "", pkgPath := "", byteOffset := 0 }, { name := "Up", type := 71, offset := 1, embedded := false, tag := "", pkgPath := "", byteOffset := 8 }] := by
  unfold Program.fieldsOf; rw [Tryd.underlying73]
theorem relT_fact : RelT Tryd.prog 73 { name := "N", type := 3, offset := 0, embedded := false, tag := "", pkgPath := "", byteOffset := 0 } { name := "Up", type := 71, offset := 1, embedded := false, tag := "", pkgPath := "", byteOffset := 8 } 70 :=
  ⟨by rw [relT_fields]; exact Tryd.underlying73, relT_fields, by decide, by decide, rfl, rfl, Tryd.underlying3, Tryd.isAgg3, Tryd.underlying71, Tryd.isAgg71, Tryd.sizeOf71, Tryd.underlying70, Tryd.sizeOf70, Tryd.isAgg70, by kernel_rfl, by kernel_rfl⟩
theorem pairT_fields : Tryd.prog.fieldsOf 110 = #[{ name := "Low", type := 3, offset := 0, embedded := false, tag := "", pkgPath := "", byteOffset := 0 }, { name := "High", type := 3, offset := 1, embedded := false, tag := "", pkgPath := "", byteOffset := 8 }] := by
  unfold Program.fieldsOf; rw [Tryd.underlying110]
theorem pairT_fact : PairT Tryd.prog 110 { name := "Low", type := 3, offset := 0, embedded := false, tag := "", pkgPath := "", byteOffset := 0 } { name := "High", type := 3, offset := 1, embedded := false, tag := "", pkgPath := "", byteOffset := 8 } :=
  ⟨by rw [pairT_fields]; exact Tryd.underlying110, pairT_fields, by decide, by decide, rfl, rfl, Tryd.underlying3, Tryd.isAgg3, Tryd.underlying3, Tryd.isAgg3, by kernel_rfl, by kernel_rfl⟩
theorem built_pair (a b : Int) : Tryd.prog.built 110 [(0, I a), (1, I b)] = some #[I a, I b] := rfl
theorem zero_fac : ∀ w, (zeroValue 84).run Tryd.prog w = .ok (.agg (facC fac0)) w := fun w => Tryd.zeroValue84 w
theorem built_rel0 : Tryd.prog.built 73 [] = some (relC Rl.none) := by
  rw [relC_def]; rfl
theorem built_shpT {v : Value} (h : v.cells = #[v]) : Tryd.prog.built 54 [(0, B true), (1, v)] = some #[B true, v] :=
  (show Tryd.prog.built 54 [(0, B true), (1, v)] = Instr.fill (#[(0, 1), (1, 1)][·]?) #[B false, .slice none 0 0] [(0, B true), (1, v)] from rfl).trans (by simp only [Instr.fill, h]; rfl)
theorem built_shp1 {v : Value} (h : v.cells = #[v]) : Tryd.prog.built 54 [(1, v)] = some #[B false, v] :=
  (show Tryd.prog.built 54 [(1, v)] = Instr.fill (#[(0, 1), (1, 1)][·]?) #[B false, .slice none 0 0] [(1, v)] from rfl).trans (by simp only [Instr.fill, h]; rfl)
theorem built_shp0 : Tryd.prog.built 54 [(0, B true)] = some #[B true, .slice none 0 0] := rfl
theorem built_fac (k : Int) (b n : Nat) (l : List Tx) : Tryd.prog.built 84 [(0, I k), (1, .slice (some ⟨b, 0, none⟩) n n)] = some (facC ⟨k, .slice (some ⟨b, 0, none⟩) n n, l, Rl.none⟩) := rfl
theorem zero_flt : ∀ w, (zeroValue 33).run Tryd.prog w = .ok (.agg (fltL flt0).toArray) w := fun w => Tryd.zeroValue33 w
theorem built_facN {v : Value} (h : v.cells = #[v]) (l : List Tx) : Tryd.prog.built 84 [(1, v)] = some (facC ⟨0, v, l, Rl.none⟩) :=
  (show Tryd.prog.built 84 [(1, v)] = Instr.fill (#[(0, 1), (1, 1), (2, 65)][·]?) (facC fac0) [(1, v)] from rfl).trans (by simp only [Instr.fill, h]; rfl)
theorem built_shpE : Tryd.prog.built 54 [] = some #[B false, .slice none 0 0] := rfl
theorem built_fltL (a b : Int) : Tryd.prog.built 33 [(0, I a), (1, I b)] = some (fltL ⟨a, b⟩).toArray := rfl
theorem built_fltL0 : Tryd.prog.built 33 [] = some (fltL flt0).toArray := rfl
theorem built_wdL (a : Tx) (b : Int) : Tryd.prog.built 38 [(0, S a), (1, I b)] = some (wdL ⟨a, b⟩).toArray := rfl
theorem built_wdLs (a : Tx) : Tryd.prog.built 38 [(0, S a)] = some (wdL ⟨a, 0⟩).toArray := rfl
theorem built_varL (a : Tx) (b c : Int) : Tryd.prog.built 60 [(0, S a), (1, I b), (2, I c)] = some (varL ⟨a, b, c⟩).toArray := rfl
theorem built_lat (t : Tx) (p : Shp) : Tryd.prog.built 56 [(0, S t), (1, .agg (shpC p))] = some (latL ⟨t, p⟩).toArray := rfl
theorem eq_var (a b : VarR) : EqT Tryd.prog 60 (varL a).toArray (varL b).toArray (decide (a = b)) :=
  (eqT Tryd.underlying60 (by kernel_rfl) (by kernel_rfl) (.cons (fldS (a := a.name) (b := b.name) (by decide) Tryd.underlying9 Tryd.isAgg9 rfl rfl) (.cons (fldI (k := .i64) (a := a.kind) (b := b.kind) (by decide) Tryd.underlying3 Tryd.isAgg3 rfl rfl) (.cons (fldI (k := .i64) (a := a.lat) (b := b.lat) (by decide) Tryd.underlying3 Tryd.isAgg3 rfl rfl) .nil)))).conv (by
    obtain ⟨a1, a2, a3⟩ := a; obtain ⟨b1, b2, b3⟩ := b
    rw [Bool.eq_iff_iff]; simp)
theorem eq_flt (a b : Flt) : EqT Tryd.prog 33 (fltL a).toArray (fltL b).toArray (decide (a = b)) :=
  (eqT Tryd.underlying33 (by kernel_rfl) (by kernel_rfl) (.cons (fldI (k := .i64) (a := a.cls) (b := b.cls) (by decide) Tryd.underlying3 Tryd.isAgg3 rfl rfl) (.cons (fldI (k := .i64) (a := a.place) (b := b.place) (by decide) Tryd.underlying3 Tryd.isAgg3 rfl rfl) .nil))).conv (by
    obtain ⟨a1, a2⟩ := a; obtain ⟨b1, b2⟩ := b
    rw [Bool.eq_iff_iff]; simp)
theorem built_node0 : Tryd.prog.built 43 [] = some (nodeL node0).toArray := rfl
theorem built_scpV {v u : Value} (h : v.cells = #[v]) (h2 : u.cells = #[u]) : Tryd.prog.built 25 [(0, v), (1, u)] = some #[v, u] :=
  (show Tryd.prog.built 25 [(0, v), (1, u)] = Instr.fill (#[(0, 1), (1, 1)][·]?) #[.slice none 0 0, .slice none 0 0] [(0, v), (1, u)] from rfl).trans (by simp only [Instr.fill, h, h2]; rfl)
theorem built_scp0 : Tryd.prog.built 25 [] = some (scpL scp0).toArray := rfl
theorem built_cmdN {v : Value} (h : v.cells = #[v]) (op : Int) (x : Wd) (l : List Wd) : Tryd.prog.built 45 [(0, I op), (2, .agg (wdL x).toArray), (3, v)] = some (cmdL (mkC op x v l)).toArray :=
  (show Tryd.prog.built 45 [(0, I op), (2, .agg (wdL x).toArray), (3, v)] = Instr.fill (#[(0, 1), (1, 1), (2, 2), (4, 1), (5, 1), (6, 1), (7, 5), (12, 5)][·]?) (cmdL cmd0).toArray [(0, I op), (2, .agg (wdL x).toArray), (3, v)] from by kernel_rfl).trans (by simp only [Instr.fill, h]; rfl)
theorem built_judge (s : Scp) (c : CmdR) : Tryd.prog.built 66 [(0, .agg (scpC s)), (1, .agg (cmdL c).toArray)] = some (judL s c (.slice none 0 0)).toArray := by kernel_rfl

theorem c_mask_Below (n : Int) (w : World) : Calls Tryd.prog 118 #[I n] w (Pure (U (below n)) w) := by
 refine enter Tryd.func118 rfl Tryd.ntmps118 rfl ?_
 have hH := Hp.start w
 refine SR ?_
 refine V (aV (U 0#64) rfl) ?_
 refine RL.nil ?_
 refine CW.seq ?_
 refine SR ?_
 refine V (mV (I _) rfl) ?_
 refine V (run_leq rfl rfl) ?_
 refine RL.nil ?_
 refine CW.condP rfl (fun h2 => ?_) (fun h2 => ?_)
 ·refine SR ?_
  refine V (aV (U 0#64) rfl) ?_
  refine RL.nil ?_
  refine CW.ret ?_
  exact outP1 Tryd.results118 (congrArg U (below_nonpos ‹_›).symm) hH.below
 ·refine CW.skip ?_
  refine CW.seq ?_
  refine SR ?_
  refine V (mV (I _) rfl) ?_
  refine V (run_geq rfl rfl) ?_
  refine RL.nil ?_
  refine CW.condP rfl (fun h4 => ?_) (fun h4 => ?_)
  ·refine SR ?_
   refine V (aV (U 18446744073709551615#64) rfl) ?_
   refine RL.nil ?_
   refine CW.ret ?_
   exact outP1 Tryd.results118 (congrArg U (below_all ‹_›).symm) hH.below
  ·refine CW.skip ?_
   refine SR ?_
   refine V (mV (I _) rfl) ?_
   refine V (run_convIU underlying3 underlying97 rfl) ?_
   refine V (run_shlU (a := 1#64) rfl rfl) ?_
   refine V (run_subU rfl (b := 1#64) rfl) ?_
   refine V (aV (U _) rfl) ?_
   refine RL.nil ?_
   refine CW.ret ?_
   exact outP1 Tryd.results118 (congrArg U (below_mid ‹_› ‹_›).symm) hH.below

theorem c_mask_in (i : Int) (w : World) : Calls Tryd.prog 112 #[I i] w (Pure (B (inB i)) w) := by
 refine enter Tryd.func112 rfl Tryd.ntmps112 rfl ?_
 have hH := Hp.start w
 refine SR ?_
 refine V (aV (B false) rfl) ?_
 refine RL.nil ?_
 refine SR ?_
 refine V (mV (I _) rfl) ?_
 refine V (run_geq rfl rfl) ?_
 refine V (mV (B _) rfl) ?_
 refine RL.splitP (dj := 5) rfl (fun h2 => ?_) (fun h2 => ?_)
 ·refine RL.gT rfl (bT h2) ?_
  refine V (mV (I _) rfl) ?_
  refine RL.gT rfl (bT h2) ?_
  refine V (run_lss rfl rfl) ?_
  refine V (run_pickT (bT h2) (v := B _) rfl) ?_
  refine V (aV (B _) rfl) ?_
  refine RL.nil ?_
  refine CW.ret ?_
  refine outP1 Tryd.results112 (congrArg B ?_) hH.below
  (simp [inB]; try omega)
 ·refine RL.gF rfl rfl (bF h2) rfl ?_
  refine RL.gF rfl rfl (bF h2) rfl ?_
  refine V (run_pickF (bF h2) (v := B false) rfl) ?_
  refine V (aV (B _) rfl) ?_
  refine RL.nil ?_
  refine CW.ret ?_
  refine outP1 Tryd.results112 (congrArg B ?_) hH.below
  (simp [inB]; try omega)

theorem c_mask_Has (s : BitVec 64) (i : Int) (w : World) : Calls Tryd.prog 101 #[U s, I i] w (Pure (B (hasB s i)) w) := by
 refine enter Tryd.func101 rfl Tryd.ntmps101 rfl ?_
 have hH := Hp.start w
 refine SR ?_
 refine V (aV (B false) rfl) ?_
 refine RL.nil ?_
 refine SR ?_
 refine V (mV (I _) rfl) ?_
 refine RL.callP rfl hH (c_mask_in _  _) (run_call1 call112 rfl) ?_
 intro w1 hH2
 refine V (mV (B _) rfl) ?_
 refine RL.split (dj := 7) rfl (fun h4 => ?_) (fun h4 => ?_)
 ·refine RL.gT rfl (bR (c := true) h4) ?_
  refine V (mV (U _) rfl) ?_
  refine RL.gT rfl (bR (c := true) h4) ?_
  refine V (mV (I _) rfl) ?_
  refine RL.gT rfl (bR (c := true) h4) ?_
  refine V (run_convIU underlying3 underlying97 rfl) ?_
  refine RL.gT rfl (bR (c := true) h4) ?_
  refine V (run_shrU rfl rfl) ?_
  refine RL.gT rfl (bR (c := true) h4) ?_
  refine V (run_andU rfl (b := 1#64) rfl) ?_
  refine RL.gT rfl (bR (c := true) h4) ?_
  refine V (run_eqlU rfl (b := 1#64) rfl) ?_
  refine V (run_pickT (bR (c := true) h4) (v := B _) rfl) ?_
  refine V (aV (B _) rfl) ?_
  refine RL.nil ?_
  refine CW.ret ?_
  refine outP1 Tryd.results101 (congrArg B ?_) hH2.below
  exact has_bit s ‹inB i = true›
 ·refine RL.gF rfl rfl (bR (c := false) h4) rfl ?_
  refine RL.gF rfl rfl (bR (c := false) h4) rfl ?_
  refine RL.gF rfl rfl (bR (c := false) h4) rfl ?_
  refine RL.gF rfl rfl (bR (c := false) h4) rfl ?_
  refine RL.gF rfl rfl (bR (c := false) h4) rfl ?_
  refine RL.gF rfl rfl (bR (c := false) h4) rfl ?_
  refine V (run_pickF (bR (c := false) h4) (v := B false) rfl) ?_
  refine V (aV (B _) rfl) ?_
  refine RL.nil ?_
  refine CW.ret ?_
  refine outP1 Tryd.results101 (congrArg B ?_) hH2.below
  exact (has_no s ‹inB i = false›).symm

theorem c_mask_With (s : BitVec 64) (i : Int) (w : World) : Calls Tryd.prog 100 #[U s, I i] w (Pure (U (withB s i)) w) := by
 refine enter Tryd.func100 rfl Tryd.ntmps100 rfl ?_
 have hH := Hp.start w
 refine SR ?_
 refine V (aV (U 0#64) rfl) ?_
 refine RL.nil ?_
 refine CW.seq ?_
 refine SR ?_
 refine V (mV (I _) rfl) ?_
 refine RL.callP rfl hH (c_mask_in _  _) (run_call1 call112 rfl) ?_
 intro w1 hH2
 refine V (run_not rfl) ?_
 refine RL.nil ?_
 refine CW.cond rfl (fun h5 => ?_) (fun h5 => ?_)
 ·refine SR ?_
  refine V (mV (U _) rfl) ?_
  refine V (aV (U _) rfl) ?_
  refine RL.nil ?_
  refine CW.ret ?_
  refine outP1 Tryd.results100 (congrArg U ?_) hH2.below
  simp_all [withB]
 ·refine CW.skip ?_
  refine SR ?_
  refine V (mV (U _) rfl) ?_
  refine V (mV (I _) rfl) ?_
  refine V (run_convIU underlying3 underlying97 rfl) ?_
  refine V (run_shlU (a := 1#64) rfl rfl) ?_
  refine V (run_orU rfl rfl) ?_
  refine V (aV (U _) rfl) ?_
  refine RL.nil ?_
  refine CW.ret ?_
  refine outP1 Tryd.results100 (congrArg U ?_) hH2.below
  simp_all [withB]

theorem c_mask_Sub (a b : BitVec 64) (w : World) : Calls Tryd.prog 116 #[U a, U b] w (Pure (B (subB a b)) w) := by
 refine enter Tryd.func116 rfl Tryd.ntmps116 rfl ?_
 have hH := Hp.start w
 refine SR ?_
 refine V (aV (B false) rfl) ?_
 refine RL.nil ?_
 refine SR ?_
 refine V (mV (U _) rfl) ?_
 refine V (mV (U _) rfl) ?_
 refine V (run_andNotU rfl rfl) ?_
 refine V (run_eqlU rfl (b := 0#64) rfl) ?_
 refine V (aV (B _) rfl) ?_
 refine RL.nil ?_
 refine CW.ret ?_
 refine outP1 Tryd.results116 (congrArg B ?_) hH.below
 rfl

theorem c_mask_Of (v : Value) (l : List Int) (w : World) (hs : Sl w v 1 l.length (l.map I)) : Calls Tryd.prog 106 #[v] w (Pure (U (ofl l)) w) := by
 have hm := hs.small
 unfold maxLen at hm
 refine enter Tryd.func106 rfl Tryd.ntmps106 rfl ?_
 have hH := Hp.start w
 refine SR ?_
 refine V (aV (U 0#64) rfl) ?_
 refine RL.nil ?_
 refine SR ?_
 refine V (aV (U 0#64) rfl) ?_
 refine RL.nil ?_
 refine CW.seq ?_
 refine SR ?_
 refine V (run_move (by conv => lhs; whnf)) ?_
 refine V (run_lenSl (hs.hp hH) rfl underlying118 rfl) ?_
 refine V (mV (I 0) rfl) ?_
 refine RL.nil ?_
 refine CW.block ?_
 refine CW.loop (G := (Int)) (fun (k : Int) s' w' => (Fr [3, 5, 8, 9, 10, 11, 12, 13, 14, 15] _ s') ∧ (Hp w w' _) ∧ (s' 3 = U (ofl (l.take k.toNat))) ∧ (s' 8 = I k) ∧ (0 ≤ k) ∧ (k ≤ l.length)) (fun (k : Int) => (l.length - k).toNat) (0) ⟨Fr.refl _ _, hH, (congrArg U (by simp [ofl_nil])), rfl, (by omega), (by omega)⟩ ?_
 rintro k sg1 w1 ⟨fr1, hH1, e3_1, e8_1, h0, hk⟩
 have e2_1 : sg1 2 = U _ := (fr1 2 rfl).trans rfl
 have e6_1 := (fr1 6 rfl).trans (by conv => lhs; whnf)
 have e7_1 : sg1 7 = I _ := (fr1 7 rfl).trans rfl
 refine SR ?_
 refine V (run_lss e8_1 e7_1) ?_
 refine RL.nil ?_
 refine CW.seq ?_
 refine CW.condP rfl (fun h3 => ?_) (fun h3 => ?_)
 ·refine CW.skip ?_
  refine CW.seq ?_
  refine CW.block ?_
  refine SR ?_
  refine V (run_indexAddrS (hs.hp hH1) underlying118 sizeOf3 e6_1 e8_1 (by omega)) ?_
  refine V (run_ld underlying3 rfl rfl ((hs.hp hH1).cell _ _ (map_at (by omega)))) ?_
  refine V (aV (I _) rfl) ?_
  refine RL.nil ?_
  refine CW.region ?_
  refine V (run_move e3_1) ?_
  refine V (mV (I _) rfl) ?_
  refine RL.callP rfl hH1 (c_mask_With _ _  _) (run_call2 call100 rfl rfl) ?_
  intro w4 hH5
  refine V (aV (U _) rfl) ?_
  refine RL.nil ?_
  refine CW.region ?_
  refine V (run_add e8_1 rfl (by omega)) ?_
  refine V (mV (I _) rfl) ?_
  refine RL.nil ?_
  refine ⟨k + 1, ?_, fr1.u4.u4.u1.u1, hH5, (congrArg U (by rw [withB_ofl, ← take_next h0 ‹_›])), (congrArg I (by first | rfl | omega)), ?_, ?_⟩
  ·((try dsimp only); omega)
  ·omega
  ·omega
 ·refine CW.exit (id := 0) rfl ?_
  refine SR ?_
  refine V (run_move e3_1) ?_
  refine V (aV (U _) rfl) ?_
  refine RL.nil ?_
  refine CW.ret ?_
  refine outP1 Tryd.results106 (congrArg U ?_) hH1.below
  rw [take_all ‹_›]

theorem c_clearanceref01_Of (v : Value) (l : List Int) (w : World) (hs : Sl w v 1 l.length (l.map I)) : Calls Tryd.prog 93 #[v] w (Pure (U (ofl l)) w) := by
 have hm := hs.small
 unfold maxLen at hm
 refine enter Tryd.func93 rfl Tryd.ntmps93 rfl ?_
 have hH := Hp.start w
 refine SR ?_
 refine V (aV (U 0#64) rfl) ?_
 refine RL.nil ?_
 refine SR ?_
 refine V (aV (U 0#64) rfl) ?_
 refine V (aV (U 1#64) rfl) ?_
 refine RL.nil ?_
 refine CW.seq ?_
 refine SR ?_
 refine V (aV (I 0) rfl) ?_
 refine RL.nil ?_
 refine CW.block ?_
 refine CW.loop (G := (Int)) (fun (i : Int) s' w' => (Fr [3, 4, 5, 6, 7, 8, 9, 10, 11, 12, 13, 14, 15, 16, 17, 18, 19, 20, 21, 22, 23, 24, 25, 26, 27] _ s') ∧ (Hp w w' _) ∧ (s' 3 = U (oflTo l i.toNat)) ∧ (s' 4 = U (1#64 <<< i.toNat)) ∧ (s' 5 = I i) ∧ (0 ≤ i) ∧ (i ≤ 64)) (fun (i : Int) => (64 - i).toNat) (0) ⟨Fr.refl _ _, hH, (congrArg U (by rfl)), (congrArg U (by rfl)), rfl, (by omega), (by omega)⟩ ?_
 rintro i sg1 w1 ⟨fr1, hH1, e3_1, e4_1, e5_1, i0, i1⟩
 have e0_1 := (fr1 0 rfl).trans (by conv => lhs; whnf)
 have e2_1 : sg1 2 = U _ := (fr1 2 rfl).trans rfl
 refine CW.seq ?_
 refine SR ?_
 refine V (run_move e5_1) ?_
 refine V (run_lss rfl rfl) ?_
 refine RL.nil ?_
 refine CW.condP rfl (fun h3 => ?_) (fun h3 => ?_)
 ·refine CW.skip ?_
  refine CW.seq ?_
  refine CW.block ?_
  refine CW.seq ?_
  refine SR ?_
  refine V (aV (I 0) rfl) ?_
  refine RL.nil ?_
  refine CW.block ?_
  refine CW.loop (G := (Int)) (fun (k : Int) s' w' => (Fr [3, 6, 11, 12, 13, 14, 15, 16, 17, 18, 19, 20, 21, 22, 23, 24, 25] _ s') ∧ (Hp w w' _) ∧ (s' 3 = U (oflTo l i.toNat)) ∧ (s' 6 = I k) ∧ (0 ≤ k) ∧ (k ≤ l.length) ∧ (∀ j : Int, 0 ≤ j → j < k → l.getD j.toNat 0 ≠ i)) (fun (k : Int) => (l.length - k).toNat) (0) ⟨Fr.refl _ _, hH1, e3_1, rfl, (by omega), (by omega), fun j a b => absurd b (by omega)⟩ ?_
  rintro k sg4 w4 ⟨fr4, hH4, e3_4, e6_4, k0, k1, hf⟩
  have e0_4 := (fr4 0 rfl).trans e0_1
  have e2_4 := (fr4 2 rfl).trans e2_1
  have e4_4 := (fr4 4 rfl).trans e4_1
  have e5_4 := (fr4 5 rfl).trans e5_1
  have e7_4 : sg4 7 = I _ := (fr4 7 rfl).trans rfl
  have e8_4 : sg4 8 = B _ := (fr4 8 rfl).trans rfl
  refine CW.seq ?_
  refine SR ?_
  refine V (run_move e6_4) ?_
  refine V (run_move e0_4) ?_
  refine V (run_lenSl (hs.hp hH4) rfl underlying118 rfl) ?_
  refine V (run_lss rfl rfl) ?_
  refine RL.nil ?_
  refine CW.condP rfl (fun h6 => ?_) (fun h6 => ?_)
  ·refine CW.skip ?_
   refine CW.seq ?_
   refine CW.block ?_
   refine SR ?_
   refine V (run_move e0_4) ?_
   refine V (run_move e6_4) ?_
   refine V (run_indexAddrS (hs.hp hH4) underlying118 sizeOf3 rfl rfl (by omega)) ?_
   refine V (run_ld underlying3 rfl rfl ((hs.hp hH4).cell _ _ (map_at (by omega)))) ?_
   refine V (run_move e5_4) ?_
   refine V (run_eql rfl rfl) ?_
   refine RL.nil ?_
   refine CW.condP rfl (fun h8 => ?_) (fun h8 => ?_)
   ·refine SR ?_
    refine V (run_move e3_4) ?_
    refine V (run_move e4_4) ?_
    refine V (run_addU rfl rfl) ?_
    refine V (aV (U _) rfl) ?_
    refine RL.nil ?_
    refine CW.exit (id := 2) rfl ?_
    refine CW.region ?_
    refine V (run_move e4_4) ?_
    refine V (run_mulU rfl (b := 2#64) rfl) ?_
    refine V (aV (U _) rfl) ?_
    refine RL.nil ?_
    refine CW.region ?_
    refine V (run_move e5_4) ?_
    refine V (run_add rfl rfl (by omega)) ?_
    refine V (aV (I _) rfl) ?_
    refine RL.nil ?_
    refine ⟨i + 1, ?_, (((fr1.u1.u1.u1).t fr4 rfl)).u4.u4.u4.u4.u4, hH4, (congrArg U (oflTo_yesI i0 (by omega) k0 (by omega) ‹_›)), (congrArg U (by rw [shl_two, show (i + 1).toNat = i.toNat + 1 by omega])), (congrArg I (by first | rfl | omega)), ?_, ?_⟩
    ·((try dsimp only); omega)
    ·omega
    ·omega
   ·refine CW.skip ?_
    refine CW.region ?_
    refine V (run_move e6_4) ?_
    refine V (run_add rfl rfl (by omega)) ?_
    refine V (aV (I _) rfl) ?_
    refine RL.nil ?_
    refine ⟨k + 1, ?_, fr4.u4.u4.u4.u1, hH4, e3_4, (congrArg I (by first | rfl | omega)), ?_, ?_, ?_⟩
    ·((try dsimp only); omega)
    ·omega
    ·omega
    ·exact fun j a b => if e : j = k then e ▸ ‹¬ l.getD k.toNat 0 = i› else hf j a (by omega)
  ·refine CW.exit (id := 2) rfl ?_
   refine CW.region ?_
   refine V (run_move e4_4) ?_
   refine V (run_mulU rfl (b := 2#64) rfl) ?_
   refine V (aV (U _) rfl) ?_
   refine RL.nil ?_
   refine CW.region ?_
   refine V (run_move e5_4) ?_
   refine V (run_add rfl rfl (by omega)) ?_
   refine V (aV (I _) rfl) ?_
   refine RL.nil ?_
   refine ⟨i + 1, ?_, (((fr1.u1.u1.u1).t fr4 rfl)).u4.u4.u1.u1, hH4, (Eq.trans e3_4 (congrArg U (oflTo_noI i0 (fun j a b => hf j a (by omega))))), (congrArg U (by rw [shl_two, show (i + 1).toNat = i.toNat + 1 by omega])), (congrArg I (by first | rfl | omega)), ?_, ?_⟩
   ·((try dsimp only); omega)
   ·omega
   ·omega
 ·refine CW.exit (id := 0) rfl ?_
  refine SR ?_
  refine V (run_move e3_1) ?_
  refine V (aV (U _) rfl) ?_
  refine RL.nil ?_
  refine CW.ret ?_
  refine outP1 Tryd.results93 (congrArg U ?_) hH1.below
  (rw [show i.toNat = 64 by omega]; rfl)

theorem c_bits_TrailingZeros64 (s : BitVec 64) (w : World) (hT : Tab w) : Calls Tryd.prog 121 #[U s] w (Pure (I (tz s)) w) := by
 refine enter Tryd.func121 rfl Tryd.ntmps121 rfl ?_
 have hH := Hp.start w
 refine SR ?_
 refine V (aV (I 0) rfl) ?_
 refine RL.nil ?_
 refine CW.seq ?_
 refine SR ?_
 refine V (mV (U _) rfl) ?_
 refine V (run_eqlU rfl (b := 0#64) rfl) ?_
 refine RL.nil ?_
 refine CW.condP rfl (fun h2 => ?_) (fun h2 => ?_)
 ·refine SR ?_
  refine V (aV (I 64) rfl) ?_
  refine RL.nil ?_
  refine CW.ret ?_
  refine outP1 Tryd.results121 (congrArg I ?_) hH.below
  rw [‹s = 0#64›]; rfl
 ·refine CW.skip ?_
  refine SR ?_
  refine V (mV (U _) rfl) ?_
  refine V (mV (U _) rfl) ?_
  refine V (run_negU rfl) ?_
  refine V (run_andU rfl rfl) ?_
  refine V (run_mulU rfl (b := 285870213051353865#64) rfl) ?_
  refine V (run_shrU rfl (b := 58#64) rfl) ?_
  refine V (run_indexAddrA underlying134 sizeOf5 rfl rfl (by exact tz_idx _)) ?_
  refine V (run_ld underlying5 rfl rfl (hT.at _)) ?_
  refine V (run_convUI underlying5 underlying3 rfl (conv_bd (tztab_bd _))) ?_
  refine V (aV (I _) rfl) ?_
  refine RL.nil ?_
  refine CW.ret ?_
  refine outP1 Tryd.results121 (congrArg I ?_) hH.below
  exact tz_ne ‹_›

theorem c_mask_Each (f : FuncId) (cap : Array Value) (Inv Stop : List Int → World → Prop) (s : BitVec 64) (w : World) (hf : ∀ args w, (callFunc f args).run Tryd.prog w = .ok (.enter f args) w) (hm : ∀ l w w', Inv l w → Below w.heap.size w w' → Inv l w') (hT : ∀ l w, Inv l w → Tab w) (go : ∀ l i r w, lst s = l ++ i :: r → Inv l w → Calls Tryd.prog f (#[I i] ++ cap) w (Ret fun u w' => ∃ c : Bool, u = B c ∧ (c = true → Inv (l ++ [i]) w') ∧ (c = false → Stop (l ++ [i]) w'))) (h0 : Inv [] w) : Calls Tryd.prog 119 #[U s, .func (.func f) #[] cap] w (Ret fun u w' => u = .tuple #[] ∧ (Inv (lst s) w' ∨ ∃ l i r, lst s = l ++ i :: r ∧ Stop (l ++ [i]) w')) := by
 refine enter Tryd.func119 rfl Tryd.ntmps119 rfl ?_
 have hH := Hp.start w
 refine CW.block ?_
 refine CW.loop (G := (BitVec 64) × (List Int)) (fun (⟨s1, l⟩ : (BitVec 64) × (List Int)) s' w' => (Fr [0, 4, 5, 6, 7, 8, 9, 10, 11, 12, 13, 14] _ s') ∧ (Inv l w') ∧ (s' 0 = U s1) ∧ (lst s = l ++ lst s1)) (fun (⟨s1, l⟩ : (BitVec 64) × (List Int)) => (lst s1).length) ((s, [])) ⟨Fr.refl _ _, h0, rfl, (by simp)⟩ ?_
 rintro ⟨s1, l⟩ sg1 w1 ⟨fr1, hH1, e0_1, hl⟩
 have hI1 := hH1
 clear hH1
 have hH1 := Hp.start w1
 have e1_1 : sg1 1 = .func _ _ _ := (fr1 1 rfl).trans rfl
 refine CW.seq ?_
 refine SR ?_
 refine V (run_move e0_1) ?_
 refine V (run_neqU rfl (b := 0#64) rfl) ?_
 refine RL.nil ?_
 refine CW.condP rfl (fun h3 => ?_) (fun h3 => ?_)
 ·refine CW.skip ?_
  refine CW.block ?_
  refine CW.seq ?_
  refine SR ?_
  refine V (run_move e1_1) ?_
  refine V (run_move e0_1) ?_
  refine RL.callP rfl hH1 (c_bits_TrailingZeros64 _ _ (hT _ _ hI1)) (run_call1 call121 rfl) ?_
  intro w4 hH5
  have hI := hm _ _ _ hI1 hH5.below
  refine RL.call rfl (run_callV1 hf rfl (v1 := I (tz s1)) rfl) (go l (tz s1) (lst (s1 &&& (s1 - 1#64))) _ (by rw [hl, lst_tz ‹_›]) hI) ?_
  rintro u8 w6 ⟨c, rfl, hJ1, hJ2⟩
  have hH7 := Hp.start w6
  refine V (run_not rfl) ?_
  refine RL.nil ?_
  refine CW.cond rfl (fun h11 => ?_) (fun h11 => ?_)
  ·refine CW.ret ?_
   exact out0 Tryd.results119 ⟨rfl, .inr ⟨l, tz s1, lst (s1 &&& (s1 - 1#64)), by rw [hl, lst_tz ‹_›], hJ2 (by simpa using ‹(!c) = true›)⟩⟩
  ·refine CW.skip ?_
   refine CW.region ?_
   refine V (run_move e0_1) ?_
   refine V (run_move e0_1) ?_
   refine V (run_subU rfl (b := 1#64) rfl) ?_
   refine V (run_andU rfl rfl) ?_
   refine V (aV (U _) rfl) ?_
   refine RL.nil ?_
   refine ⟨(s1 &&& (s1 - 1#64), l ++ [tz s1]), ?_, fr1.u4.u4.u4, (hJ1 (by simpa using ‹(!c) = false›)), rfl, ?_⟩
   ·exact lst_clear_lt ‹_›
   ·rw [hl, lst_tz ‹_›]; simp
 ·refine CW.exit (id := 0) rfl ?_
  have hn : lst s1 = [] := lst_eq_nil.2 (by simpa using ‹¬ s1 ≠ 0#64›)
  exact out0 Tryd.results119 ⟨rfl, .inl (by rw [hl, hn, List.append_nil]; assumption)⟩

theorem c_mask_List_1 (W0 : World) (b : Nat) (v : Value) (l : List Int) (i : Int) (w : World) (hH : Hp W0 w [.row v 3 1 l.length (l.map I), .blk b (.cells #[v] 118 (0, 0))]) (hlen : l.length ≤ 64) : Calls Tryd.prog 120 #[I i, .pointer (some ⟨b, 0, none⟩)] w (Ret fun u w' => u = B true ∧ ∃ v', Hp W0 w' [.row v' 3 1 (l ++ [i]).length ((l ++ [i]).map I), .blk b (.cells #[v'] 118 (0, 0))]) := by
 refine enter Tryd.func120 rfl Tryd.ntmps120 rfl ?_
 refine SR ?_
 refine V (aV (B false) rfl) ?_
 refine RL.nil ?_
 refine SR ?_
 refine V (run_ld underlying118 rfl rfl (hH.cell (i := 1) rfl rfl)) ?_
 refine V (mV (I _) rfl) ?_
 refine RL.new rfl hH (f := fun b => (.slice (some ⟨b, 0, none⟩) 1 1)) (run_mkL underlying118 rfl rfl (sz := 1) (vs := [I _]) rfl rfl (by decide) (by decide) rfl rfl) ?_
 intro b3 w1 hH2
 (try simp only [List.flatMap_cons, List.flatMap_nil, clI, clB, clS, clP, clL, clA, List.append_nil, List.cons_append, List.nil_append] at hH2)
 refine RL.app rfl hH2 (i := 1) rfl (hH2.slBlk (i := 0) (n := 1) (sz := 1) rfl rfl (by decide)) rfl rfl underlying118 rfl rfl (size := 1) (bytes := 8) rfl rfl rfl (by decide) (by simp [Value.oneCell']) (by omega) (by simp only [maxLen]; omega) ?_
 intro v4 w5 hH6
 simp only [z0, z1] at hH6
 refine RL.set hH6 (i := 2) rfl (run_st rfl rfl (by conv => lhs; whnf) (row_cells (hH6.get (i := 1) rfl)).1 (row_cells (hH6.get (i := 1) rfl)).2 (hH6.blk (i := 2) rfl) (by first | decide | simp)) ?_
 intro w7 hH8
 simp only [z0, z1] at hH8
 refine RL.nil ?_
 refine SR ?_
 refine V (aV (B true) rfl) ?_
 refine RL.nil ?_
 refine CW.ret ?_
 exact out1 Tryd.results120 rfl ⟨rfl, (v4 : Value), Hp.conv hH8.tail (by simp)⟩

theorem c_mask_List (s : BitVec 64) (w : World) (hT : Tab w) : Calls Tryd.prog 115 #[U s] w (PureRow 3 1 (lst s).length ((lst s).map I) w) := by
 refine enter Tryd.func115 rfl Tryd.ntmps115 rfl ?_
 have hH := Hp.start w
 refine SR ?_
 refine V (aV (.slice none 0 0) rfl) ?_
 refine RL.nil ?_
 refine SR ?_
 refine RL.new rfl hH (f := fun b => (.pointer (some ⟨b, 0, none⟩))) (run_alloc Tryd.zeroValue118) ?_
 intro b3 w1 hH2
 have hH4 := hH2.nilRow 3 1
 refine RL.nil ?_
 refine SR ?_
 refine V (mV (U _) rfl) ?_
 refine V (run_mkF1 (by conv => lhs; whnf)) ?_
 refine RL.call rfl (run_call2 call119 (v1 := U s) rfl (v2 := .func (.func 120) #[] #[.pointer (some ⟨b3, 0, none⟩)]) rfl) (c_mask_Each 120 _ (fun l w' => ∃ v, Hp w w' [.row v 3 1 l.length (l.map I), .blk b3 (.cells #[v] 118 (0, 0))]) (fun _ _ => False) s _ call120 (fun l w' w'' h hb => h.imp fun v h => h.call hb) (fun l w' h => h.elim fun v h => hT.hp h) (fun l i r w' he h => h.elim fun v h => by
   have hl64 : l.length ≤ 64 := by have := lst_len s; rw [he] at this; simp at this; omega
   have hc := c_mask_List_1 w b3 v l i w' h hl64
   refine Ret.calls hc ?_
   intro u w2 hq
   exact ⟨true, hq.1, fun _ => hq.2, fun h => by cases h⟩) ⟨.slice none 0 0, hH4⟩) ?_
 rintro u w5 ⟨rfl, hor⟩
 obtain ⟨v7, hH6⟩ := hor.resolve_right (fun ⟨_, _, _, _, h⟩ => h)
 refine RL.nil ?_
 refine SR ?_
 refine V (run_ld underlying118 rfl rfl (hH6.cell (i := 1) rfl rfl)) ?_
 refine V (run_assign (by conv => lhs; whnf)) ?_
 refine RL.nil ?_
 refine CW.ret ?_
 exact outR Tryd.results115 rfl hH6 (i := 0) rfl (rfl) (rfl)

theorem c_clearanceref03_Points (r : Rl) (w : World) : Calls Tryd.prog 90 #[.agg (relC r)] w (Pure (I (pts r)) w) := by
 refine enter Tryd.func90 rfl Tryd.ntmps90 rfl ?_
 have hH := Hp.start w
 refine SR ?_
 refine RL.new rfl hH (f := fun b => (.pointer (some ⟨b, 0, none⟩))) (run_box (v := .agg _) rfl) ?_
 intro b3 w1 hH2
 refine V (aV (I 0) rfl) ?_
 refine RL.nil ?_
 refine CW.seq ?_
 refine SR ?_
 refine V (fA underlying73 0 rfl sizeOf3 rfl) ?_
 refine V (run_ld underlying3 rfl rfl (hH2.cell (i := 0) rfl (relC_N _))) ?_
 refine V (run_lss rfl rfl) ?_
 refine RL.nil ?_
 refine CW.condP rfl (fun h5 => ?_) (fun h5 => ?_)
 ·refine SR ?_
  refine V (aV (I 0) rfl) ?_
  refine RL.nil ?_
  refine CW.ret ?_
  refine outP1 Tryd.results90 (congrArg I ?_) hH2.below
  (unfold pts; omega)
 ·refine CW.skip ?_
  refine CW.seq ?_
  refine SR ?_
  refine V (fA underlying73 0 rfl sizeOf3 rfl) ?_
  refine V (run_ld underlying3 rfl rfl (hH2.cell (i := 0) rfl (relC_N _))) ?_
  refine V (run_gtr rfl rfl) ?_
  refine RL.nil ?_
  refine CW.condP rfl (fun h7 => ?_) (fun h7 => ?_)
  ·refine SR ?_
   refine V (aV (I 64) rfl) ?_
   refine RL.nil ?_
   refine CW.ret ?_
   refine outP1 Tryd.results90 (congrArg I ?_) hH2.below
   (unfold pts; omega)
  ·refine CW.skip ?_
   refine SR ?_
   refine V (fA underlying73 0 rfl sizeOf3 rfl) ?_
   refine V (run_ld underlying3 rfl rfl (hH2.cell (i := 0) rfl (relC_N _))) ?_
   refine V (aV (I _) rfl) ?_
   refine RL.nil ?_
   refine CW.ret ?_
   refine outP1 Tryd.results90 (congrArg I ?_) hH2.below
   (unfold pts; omega)

theorem c_relate_points (r : Rl) (w : World) : Calls Tryd.prog 104 #[.agg (relC r)] w (Pure (I (pts r)) w) := by
 refine enter Tryd.func104 rfl Tryd.ntmps104 rfl ?_
 have hH := Hp.start w
 refine SR ?_
 refine RL.new rfl hH (f := fun b => (.pointer (some ⟨b, 0, none⟩))) (run_box (v := .agg _) rfl) ?_
 intro b3 w1 hH2
 refine V (aV (I 0) rfl) ?_
 refine RL.nil ?_
 refine SR ?_
 refine V (fA underlying73 0 rfl sizeOf3 rfl) ?_
 refine V (run_ld underlying3 rfl rfl (hH2.cell (i := 0) rfl (relC_N _))) ?_
 refine V (run_minI rfl rfl) ?_
 refine V (run_maxI rfl rfl) ?_
 refine V (aV (I _) rfl) ?_
 refine RL.nil ?_
 refine CW.ret ?_
 refine outP1 Tryd.results104 (congrArg I ?_) hH2.below
 rfl

theorem c_relate_is (r : Rl) (i : Int) (w : World) : Calls Tryd.prog 103 #[.agg (relC r), I i] w (Pure (B (isP r i)) w) := by
 refine enter Tryd.func103 rfl Tryd.ntmps103 rfl ?_
 have hH := Hp.start w
 refine SR ?_
 refine RL.new rfl hH (f := fun b => (.pointer (some ⟨b, 0, none⟩))) (run_box (v := .agg _) rfl) ?_
 intro b3 w1 hH2
 refine V (aV (B false) rfl) ?_
 refine RL.nil ?_
 refine SR ?_
 refine V (mV (I _) rfl) ?_
 refine V (run_geq rfl rfl) ?_
 refine V (mV (B _) rfl) ?_
 refine RL.splitP (dj := 7) rfl (fun h5 => ?_) (fun h5 => ?_)
 ·refine RL.gT rfl (bT h5) ?_
  refine V (mV (I _) rfl) ?_
  refine RL.gT rfl (bT h5) ?_
  refine V (run_ldRel underlying73 rfl rfl rfl (hH2.blk (i := 0) rfl)) ?_
  refine RL.gT rfl (bT h5) ?_
  refine RL.callP rfl hH2 (c_relate_points _  _) (run_call1 call104 rfl) ?_
  intro w6 hH7
  refine RL.gT rfl (bT h5) ?_
  refine V (run_lss rfl rfl) ?_
  refine V (run_pickT (bT h5) (v := B _) rfl) ?_
  refine V (aV (B _) rfl) ?_
  refine RL.nil ?_
  refine CW.ret ?_
  refine outP1 Tryd.results103 (congrArg B ?_) hH7.below
  (simp [isP]; try omega)
 ·refine RL.gF rfl rfl (bF h5) rfl ?_
  refine RL.gF rfl rfl (bF h5) rfl ?_
  refine RL.gF rfl rfl (bF h5) rfl ?_
  refine RL.gF rfl rfl (bF h5) rfl ?_
  refine V (run_pickF (bF h5) (v := B false) rfl) ?_
  refine V (aV (B _) rfl) ?_
  refine RL.nil ?_
  refine CW.ret ?_
  refine outP1 Tryd.results103 (congrArg B ?_) hH2.below
  (simp [isP]; try omega)

theorem c_clearanceref03_Has (r : Rl) (i j : Int) (w : World) : Calls Tryd.prog 91 #[.agg (relC r), I i, I j] w (Pure (B (hasR r i j)) w) := by
 have hp := pts_bd r
 refine enter Tryd.func91 rfl Tryd.ntmps91 rfl ?_
 have hH := Hp.start w
 refine SR ?_
 refine RL.new rfl hH (f := fun b => (.pointer (some ⟨b, 0, none⟩))) (run_box (v := .agg _) rfl) ?_
 intro b3 w1 hH2
 refine V (aV (B false) rfl) ?_
 refine RL.nil ?_
 refine SR ?_
 refine V (run_ldRel underlying73 rfl rfl rfl (hH2.blk (i := 0) rfl)) ?_
 refine RL.callP rfl hH2 (c_clearanceref03_Points _  _) (run_call1 call90 rfl) ?_
 intro w4 hH5
 refine V (aV (I _) rfl) ?_
 refine RL.nil ?_
 refine SR ?_
 refine V (mV (I _) rfl) ?_
 refine V (run_geq rfl rfl) ?_
 refine V (mV (B _) rfl) ?_
 refine RL.splitP (dj := 12) rfl (fun h7 => ?_) (fun h7 => ?_)
 ·refine RL.gT rfl (bT h7) ?_
  refine V (mV (I _) rfl) ?_
  refine RL.gT rfl (bT h7) ?_
  refine V (run_geq rfl rfl) ?_
  refine V (run_pickT (bT h7) (v := B _) rfl) ?_
  refine V (mV (B _) rfl) ?_
  refine RL.splitP (dj := 16) rfl (fun h9 => ?_) (fun h9 => ?_)
  ·refine RL.gT rfl (bT h9) ?_
   refine V (mV (I _) rfl) ?_
   refine RL.gT rfl (bT h9) ?_
   refine V (mV (I _) rfl) ?_
   refine RL.gT rfl (bT h9) ?_
   refine V (run_lss rfl rfl) ?_
   refine V (run_pickT (bT h9) (v := B _) rfl) ?_
   refine V (mV (B _) rfl) ?_
   refine RL.splitP (dj := 21) rfl (fun h11 => ?_) (fun h11 => ?_)
   ·refine RL.gT rfl (bT h11) ?_
    refine V (mV (I _) rfl) ?_
    refine RL.gT rfl (bT h11) ?_
    refine V (mV (I _) rfl) ?_
    refine RL.gT rfl (bT h11) ?_
    refine V (run_lss rfl rfl) ?_
    refine V (run_pickT (bT h11) (v := B _) rfl) ?_
    refine V (mV (B _) rfl) ?_
    refine RL.splitP (dj := 26) rfl (fun h13 => ?_) (fun h13 => ?_)
    ·refine RL.gT rfl (bT h13) ?_
     refine V (mV (I _) rfl) ?_
     refine RL.gT rfl (bT h13) ?_
     refine V (fA underlying73 1 rfl sizeOf71 rfl) ?_
     refine RL.gT rfl (bT h13) ?_
     refine V (run_indexAddrA underlying71 sizeOf70 rfl rfl (by omega)) ?_
     refine RL.gT rfl (bT h13) ?_
     refine V (run_ld underlying70 rfl rfl (hH5.cell (i := 0) rfl (relC_up _ (by omega)))) ?_
     refine RL.gT rfl (bT h13) ?_
     refine V (mV (I _) rfl) ?_
     refine RL.gT rfl (bT h13) ?_
     refine V (run_convIU underlying3 underlying97 rfl) ?_
     refine RL.gT rfl (bT h13) ?_
     refine V (run_shrU rfl rfl) ?_
     refine RL.gT rfl (bT h13) ?_
     refine V (run_remU rfl (b := 2#64) rfl (by decide)) ?_
     refine RL.gT rfl (bT h13) ?_
     refine V (run_eqlU rfl (b := 1#64) rfl) ?_
     refine V (run_pickT (bT h13) (v := B _) rfl) ?_
     refine V (aV (B _) rfl) ?_
     refine RL.nil ?_
     refine CW.ret ?_
     refine outP1 Tryd.results91 (congrArg B ?_) hH5.below
     first | exact has_ref (by omega) (by omega) (by omega) (by omega) | exact (has_out (by omega)).symm
    ·refine RL.gF rfl rfl (bF h13) rfl ?_
     refine RL.gF rfl rfl (bF h13) rfl ?_
     refine RL.gF rfl rfl (bF h13) rfl ?_
     refine RL.gF rfl rfl (bF h13) rfl ?_
     refine RL.gF rfl rfl (bF h13) rfl ?_
     refine RL.gF rfl rfl (bF h13) rfl ?_
     refine RL.gF rfl rfl (bF h13) rfl ?_
     refine RL.gF rfl rfl (bF h13) rfl ?_
     refine RL.gF rfl rfl (bF h13) rfl ?_
     refine V (run_pickF (bF h13) (v := B false) rfl) ?_
     refine V (aV (B _) rfl) ?_
     refine RL.nil ?_
     refine CW.ret ?_
     refine outP1 Tryd.results91 (congrArg B ?_) hH5.below
     first | exact has_ref (by omega) (by omega) (by omega) (by omega) | exact (has_out (by omega)).symm
   ·refine RL.gF rfl rfl (bF h11) rfl ?_
    refine RL.gF rfl rfl (bF h11) rfl ?_
    refine RL.gF rfl rfl (bF h11) rfl ?_
    refine V (run_pickF (bF h11) (v := B false) rfl) ?_
    refine V (mV (B _) rfl) ?_
    refine RL.gF rfl rfl rfl rfl ?_
    refine RL.gF rfl rfl rfl rfl ?_
    refine RL.gF rfl rfl rfl rfl ?_
    refine RL.gF rfl rfl rfl rfl ?_
    refine RL.gF rfl rfl rfl rfl ?_
    refine RL.gF rfl rfl rfl rfl ?_
    refine RL.gF rfl rfl rfl rfl ?_
    refine RL.gF rfl rfl rfl rfl ?_
    refine RL.gF rfl rfl rfl rfl ?_
    refine V (run_pickF rfl (v := B false) rfl) ?_
    refine V (aV (B _) rfl) ?_
    refine RL.nil ?_
    refine CW.ret ?_
    refine outP1 Tryd.results91 (congrArg B ?_) hH5.below
    first | exact has_ref (by omega) (by omega) (by omega) (by omega) | exact (has_out (by omega)).symm
  ·refine RL.gF rfl rfl (bF h9) rfl ?_
   refine RL.gF rfl rfl (bF h9) rfl ?_
   refine RL.gF rfl rfl (bF h9) rfl ?_
   refine V (run_pickF (bF h9) (v := B false) rfl) ?_
   refine V (mV (B _) rfl) ?_
   refine RL.gF rfl rfl rfl rfl ?_
   refine RL.gF rfl rfl rfl rfl ?_
   refine RL.gF rfl rfl rfl rfl ?_
   refine V (run_pickF rfl (v := B false) rfl) ?_
   refine V (mV (B _) rfl) ?_
   refine RL.gF rfl rfl rfl rfl ?_
   refine RL.gF rfl rfl rfl rfl ?_
   refine RL.gF rfl rfl rfl rfl ?_
   refine RL.gF rfl rfl rfl rfl ?_
   refine RL.gF rfl rfl rfl rfl ?_
   refine RL.gF rfl rfl rfl rfl ?_
   refine RL.gF rfl rfl rfl rfl ?_
   refine RL.gF rfl rfl rfl rfl ?_
   refine RL.gF rfl rfl rfl rfl ?_
   refine V (run_pickF rfl (v := B false) rfl) ?_
   refine V (aV (B _) rfl) ?_
   refine RL.nil ?_
   refine CW.ret ?_
   refine outP1 Tryd.results91 (congrArg B ?_) hH5.below
   first | exact has_ref (by omega) (by omega) (by omega) (by omega) | exact (has_out (by omega)).symm
 ·refine RL.gF rfl rfl (bF h7) rfl ?_
  refine RL.gF rfl rfl (bF h7) rfl ?_
  refine V (run_pickF (bF h7) (v := B false) rfl) ?_
  refine V (mV (B _) rfl) ?_
  refine RL.gF rfl rfl rfl rfl ?_
  refine RL.gF rfl rfl rfl rfl ?_
  refine RL.gF rfl rfl rfl rfl ?_
  refine V (run_pickF rfl (v := B false) rfl) ?_
  refine V (mV (B _) rfl) ?_
  refine RL.gF rfl rfl rfl rfl ?_
  refine RL.gF rfl rfl rfl rfl ?_
  refine RL.gF rfl rfl rfl rfl ?_
  refine V (run_pickF rfl (v := B false) rfl) ?_
  refine V (mV (B _) rfl) ?_
  refine RL.gF rfl rfl rfl rfl ?_
  refine RL.gF rfl rfl rfl rfl ?_
  refine RL.gF rfl rfl rfl rfl ?_
  refine RL.gF rfl rfl rfl rfl ?_
  refine RL.gF rfl rfl rfl rfl ?_
  refine RL.gF rfl rfl rfl rfl ?_
  refine RL.gF rfl rfl rfl rfl ?_
  refine RL.gF rfl rfl rfl rfl ?_
  refine RL.gF rfl rfl rfl rfl ?_
  refine V (run_pickF rfl (v := B false) rfl) ?_
  refine V (aV (B _) rfl) ?_
  refine RL.nil ?_
  refine CW.ret ?_
  refine outP1 Tryd.results91 (congrArg B ?_) hH5.below
  first | exact has_ref (by omega) (by omega) (by omega) (by omega) | exact (has_out (by omega)).symm

theorem c_relate_row (r : Rl) (i : Int) (hi : 0 ≤ i ∧ i < 64) (w : World) : Calls Tryd.prog 111 #[.agg (relC r), I i] w (Pure (U (rowR r i)) w) := by
 refine enter Tryd.func111 rfl Tryd.ntmps111 rfl ?_
 have hH := Hp.start w
 refine SR ?_
 refine RL.new rfl hH (f := fun b => (.pointer (some ⟨b, 0, none⟩))) (run_box (v := .agg _) rfl) ?_
 intro b3 w1 hH2
 refine V (aV (U 0#64) rfl) ?_
 refine RL.nil ?_
 refine CW.seq ?_
 refine CW.regionD (by kernel_rfl) hH2 ?_
 intro w4 hH5
 refine AT 0 rfl (hH5.sub sR) (fun w hS => mV (I _) rfl) ?_
 refine AT 1 rfl (hH5.sub sR) (fun w hS => fA underlying73 1 rfl sizeOf71 rfl) ?_
 refine AT 2 rfl (hH5.sub sR) (fun w hS => run_indexAddrA underlying71 sizeOf70 rfl rfl (by omega)) ?_
 refine AT 3 rfl (hH5.sub sR) (fun w hS => run_ld underlying70 rfl rfl (hS.cell (i := 0) rfl (relC_up _ (by omega)))) ?_
 refine AT 4 rfl (hH5.sub sR) (fun w hS => run_ldRel underlying73 rfl rfl rfl (hS.blk (i := 0) rfl)) ?_
 refine A1 5 ?_
 refine AO.callP rfl gnone rfl hH5 sR (c_relate_points _  _) (run_call1 call104 rfl) ?_
 intro w6 hH7
 refine A1 6 ?_
 refine AO.callP rfl gnone rfl hH7 sR (c_mask_Below _  _) (run_call1 call118 rfl) ?_
 intro w8 hH9
 refine AT 7 rfl (hH9.sub sR) (fun w hS => run_andU rfl rfl) ?_
 refine AT 8 rfl (hH9.sub sR) (fun w hS => aV (U _) rfl) ?_
 refine AD ?_
 refine CW.ret ?_
 refine outP1 Tryd.results111 (congrArg U ?_) hH9.below
 rfl

theorem c_relate_plain (r : Rl) (w : World) : Calls Tryd.prog 97 #[.agg (relC r)] w (Pure (.agg (relC (plainR r))) w) := by
 have hp := pts_bd r
 refine enter Tryd.func97 rfl Tryd.ntmps97 rfl ?_
 have hH := Hp.start w
 refine SR ?_
 refine RL.new rfl hH (f := fun b => (.pointer (some ⟨b, 0, none⟩))) (run_box (v := .agg _) rfl) ?_
 intro b3 w1 hH2
 refine RL.new rfl hH2 (f := fun b => (.pointer (some ⟨b, 0, none⟩))) (run_alloc zero_rel) ?_
 intro b6 w4 hH5
 refine RL.nil ?_
 refine SR ?_
 refine V (run_ldRel underlying73 rfl rfl rfl (hH5.blk (i := 1) rfl)) ?_
 refine RL.callP rfl hH5 (c_relate_points _  _) (run_call1 call104 rfl) ?_
 intro w7 hH8
 refine V (run_bld (vs := [(0, I _)]) rfl (built_rel _)) ?_
 refine RL.new rfl hH8 (f := fun b => (.pointer (some ⟨b, 0, none⟩))) (run_alloc zero_rel) ?_
 intro b11 w9 hH10
 refine RL.set hH10 (i := 0) rfl (run_stRel rfl rfl rfl (hH10.blk (i := 0) rfl)) ?_
 intro w12 hH13
 simp only [z0, z1] at hH13
 refine RL.nil ?_
 refine CW.seq ?_
 refine SR ?_
 refine V (fA underlying73 0 rfl sizeOf3 rfl) ?_
 refine V (run_ld underlying3 rfl rfl (hH13.cell (i := 0) rfl (relC_N _))) ?_
 refine V (mV (I 0) rfl) ?_
 refine RL.nil ?_
 refine CW.block ?_
 have hz : (⟨pts r, fun _ => 0#64⟩ : Rl).n = pts r := rfl
 refine CW.loop (G := (Int) × (Rl)) (fun (⟨k, r1⟩ : (Int) × (Rl)) s' w' => (Fr [4, 10, 11, 12, 13, 14, 15, 16, 17, 18, 19] _ s') ∧ (Hp w w' (.blk b11 (.cells (relC r1) 73 (0, 0)) :: _)) ∧ (s' 10 = I k) ∧ (0 ≤ k) ∧ (k ≤ pts r) ∧ (r1 = fillR (pts r) (fun i => rowR r i) k)) (fun (⟨k, r1⟩ : (Int) × (Rl)) => (pts r - k).toNat) ((0, ⟨pts r, fun _ => 0#64⟩)) ⟨Fr.refl _ _, hH13, rfl, (by omega), (by omega), fill_zero _ _⟩ ?_
 rintro ⟨k, r1⟩ sg14 w14 ⟨fr14, hH14, e10_14, h0, hk, hr⟩
 have e1_14 : sg14 1 = Pn _ _ := (fr14 1 rfl).trans rfl
 have e2_14 : sg14 2 = Pn _ _ := (fr14 2 rfl).trans rfl
 have e3_14 : sg14 3 = Pn _ _ := (fr14 3 rfl).trans rfl
 have e9_14 : sg14 9 = I _ := (fr14 9 rfl).trans rfl
 have hn : r1.n = pts r := by rw [hr]; rfl
 refine SR ?_
 refine V (run_lss e10_14 e9_14) ?_
 refine RL.nil ?_
 refine CW.seq ?_
 refine CW.condP rfl (fun h16 => ?_) (fun h16 => ?_)
 ·refine CW.skip ?_
  refine CW.seq ?_
  refine CW.block ?_
  refine SR ?_
  refine V (run_move e10_14) ?_
  refine V (aV (I _) rfl) ?_
  refine RL.nil ?_
  refine CW.region ?_
  refine V (mV (I _) rfl) ?_
  refine V (run_ldRel underlying73 rfl rfl e1_14 (hH14.blk (i := 2) rfl)) ?_
  refine V (mV (I _) rfl) ?_
  refine RL.callP rfl hH14 (c_relate_row _ _ (by first | assumption | omega | (dsimp only at *; omega) | exact lst_at_bd (by assumption) (by assumption) | exact low_bd (lst_at (by assumption) (by assumption))) _) (run_call2 call111 rfl rfl) ?_
  intro w17 hH18
  refine V (fA underlying73 1 rfl sizeOf71 e3_14) ?_
  refine V (run_indexAddrA underlying71 sizeOf70 rfl rfl (by first | omega | (dsimp only at *; omega))) ?_
  refine RL.set hH18 (i := 0) rfl (run_st rfl rfl (v := U _) rfl rfl rfl (hH18.blk (i := 0) rfl) (by rw [relC_size]; omega)) ?_
  intro w19 hH20
  simp only [z0, z1] at hH20
  rw [relC_put] at hH20
  refine RL.nil ?_
  refine CW.region ?_
  refine V (run_add e10_14 rfl (by omega)) ?_
  refine V (mV (I _) rfl) ?_
  refine RL.nil ?_
  refine ⟨(k + 1, _), ?_, fr14.u4.u4.u1.u1.u1, hH20, (congrArg I (by first | rfl | omega)), ?_, ?_, ?_⟩
  ·((try dsimp only); omega)
  ·omega
  ·omega
  ·rw [hr]; exact fill_put h0 (by rw [Int.toNat_of_nonneg h0])
 ·refine CW.exit (id := 0) rfl ?_
  refine SR ?_
  refine V (run_ldRel underlying73 rfl rfl e3_14 (hH14.blk (i := 0) rfl)) ?_
  refine RL.set hH14 (i := 1) rfl (run_stRel rfl e2_14 rfl (hH14.blk (i := 1) rfl)) ?_
  intro w21 hH22
  simp only [z0, z1] at hH22
  refine RL.nil ?_
  refine CW.ret ?_
  refine outC Tryd.results97 e2_14 hH22 (i := 1) rfl underlying73 rfl rfl ⟨?_, hH22.below⟩
  (rw [hr, show k = pts r by omega]; rfl)

theorem c_relate_Up (r : Rl) (s : BitVec 64) (w : World) (hT : Tab w) : Calls Tryd.prog 113 #[.agg (relC r), U s] w (Pure (U (upR r s)) w) := by
 have hp := pts_bd r
 refine enter Tryd.func113 rfl Tryd.ntmps113 rfl ?_
 have hH := Hp.start w
 refine SR ?_
 refine RL.new rfl hH (f := fun b => (.pointer (some ⟨b, 0, none⟩))) (run_box (v := .agg _) rfl) ?_
 intro b3 w1 hH2
 refine V (aV (U 0#64) rfl) ?_
 refine RL.nil ?_
 refine SR ?_
 refine V (aV (U 0#64) rfl) ?_
 refine RL.nil ?_
 refine CW.seq ?_
 refine SR ?_
 refine V (mV (U _) rfl) ?_
 refine V (run_ldRel underlying73 rfl rfl rfl (hH2.blk (i := 0) rfl)) ?_
 refine RL.callP rfl hH2 (c_relate_points _  _) (run_call1 call104 rfl) ?_
 intro w4 hH5
 refine RL.callP rfl hH5 (c_mask_Below _  _) (run_call1 call118 rfl) ?_
 intro w6 hH7
 refine V (run_andU rfl rfl) ?_
 refine RL.callR rfl hH7 (c_mask_List _  _ (hT.hp hH7)) (run_call1 call115 rfl) ?_
 intro v10 w8 hH9
 refine V (run_lenSl (hH9.sl (i := 0) rfl) rfl underlying118 rfl) ?_
 refine V (mV (I 0) rfl) ?_
 refine RL.nil ?_
 refine CW.block ?_
 have hl := lst_len (s &&& below (pts r))
 refine CW.loop (G := (Int)) (fun (k : Int) s' w' => (Fr [5, 7, 15, 16, 17, 18, 19, 20, 21, 22, 23, 24] _ s') ∧ (Hp w w' _) ∧ (s' 5 = U (orAll (rowR r) ((lst (s &&& below (pts r))).take k.toNat))) ∧ (s' 15 = I k) ∧ (0 ≤ k) ∧ (k ≤ (lst (s &&& below (pts r))).length)) (fun (k : Int) => ((lst (s &&& below (pts r))).length - k).toNat) (0) ⟨Fr.refl _ _, hH9, (congrArg U (by simp [orAll])), rfl, (by omega), (by omega)⟩ ?_
 rintro k sg11 w11 ⟨fr11, hH11, e5_11, e15_11, h0, hk⟩
 have e2_11 : sg11 2 = Pn _ _ := (fr11 2 rfl).trans rfl
 have e4_11 : sg11 4 = U _ := (fr11 4 rfl).trans rfl
 have e13_11 := (fr11 13 rfl).trans (by conv => lhs; whnf)
 have e14_11 : sg11 14 = I _ := (fr11 14 rfl).trans rfl
 refine SR ?_
 refine V (run_lss e15_11 e14_11) ?_
 refine RL.nil ?_
 refine CW.seq ?_
 refine CW.condP rfl (fun h13 => ?_) (fun h13 => ?_)
 ·refine CW.skip ?_
  refine CW.seq ?_
  refine CW.block ?_
  refine SR ?_
  refine V (run_indexAddrS (hH11.sl (i := 0) rfl) underlying118 sizeOf3 e13_11 e15_11 (by omega)) ?_
  refine V (run_ld underlying3 rfl rfl ((hH11.sl (i := 0) rfl).cell _ _ (map_at (by omega)))) ?_
  refine V (aV (I _) rfl) ?_
  refine RL.nil ?_
  refine CW.region ?_
  refine V (run_move e5_11) ?_
  refine V (run_ldRel underlying73 rfl rfl e2_11 (hH11.blk (i := 1) rfl)) ?_
  refine V (mV (I _) rfl) ?_
  refine RL.callP rfl hH11 (c_relate_row _ _ (by first | assumption | omega | (dsimp only at *; omega) | exact lst_at_bd (by assumption) (by assumption) | exact low_bd (lst_at (by assumption) (by assumption))) _) (run_call2 call111 rfl rfl) ?_
  intro w14 hH15
  refine V (run_orU rfl rfl) ?_
  refine V (aV (U _) rfl) ?_
  refine RL.nil ?_
  refine CW.region ?_
  refine V (run_add e15_11 rfl (by omega)) ?_
  refine V (mV (I _) rfl) ?_
  refine RL.nil ?_
  refine ⟨k + 1, ?_, fr11.u4.u4.u4, hH15, (congrArg U (orAll_next h0 ‹_›)), (congrArg I (by first | rfl | omega)), ?_, ?_⟩
  ·((try dsimp only); omega)
  ·omega
  ·omega
 ·refine CW.exit (id := 0) rfl ?_
  refine SR ?_
  refine V (run_move e5_11) ?_
  refine V (aV (U _) rfl) ?_
  refine RL.nil ?_
  refine CW.ret ?_
  refine outP1 Tryd.results113 (congrArg U ?_) hH11.below
  (rw [take_all ‹_›]; rfl)

theorem c_relate_Down (r : Rl) (s : BitVec 64) (w : World) : Calls Tryd.prog 114 #[.agg (relC r), U s] w (Pure (U (downR r s)) w) := by
 have hp := pts_bd r
 refine enter Tryd.func114 rfl Tryd.ntmps114 rfl ?_
 have hH := Hp.start w
 refine SR ?_
 refine RL.new rfl hH (f := fun b => (.pointer (some ⟨b, 0, none⟩))) (run_box (v := .agg _) rfl) ?_
 intro b3 w1 hH2
 refine V (aV (U 0#64) rfl) ?_
 refine RL.nil ?_
 refine SR ?_
 refine V (aV (U 0#64) rfl) ?_
 refine RL.nil ?_
 refine CW.seq ?_
 refine SR ?_
 refine V (run_ldRel underlying73 rfl rfl rfl (hH2.blk (i := 0) rfl)) ?_
 refine RL.callP rfl hH2 (c_relate_points _  _) (run_call1 call104 rfl) ?_
 intro w4 hH5
 refine V (mV (I 0) rfl) ?_
 refine RL.nil ?_
 refine CW.block ?_
 refine CW.loop (G := (Int)) (fun (k : Int) s' w' => (Fr [5, 6, 9, 10, 11, 12, 13, 14, 15, 16, 17, 18, 19, 20, 21] _ s') ∧ (Hp w w' _) ∧ (s' 5 = U (downTo r s k)) ∧ (s' 9 = I k) ∧ (0 ≤ k) ∧ (k ≤ pts r)) (fun (k : Int) => (pts r - k).toNat) (0) ⟨Fr.refl _ _, hH5, (congrArg U (by simp [downTo, bitsTo])), rfl, (by omega), (by omega)⟩ ?_
 rintro k sg6 w6 ⟨fr6, hH6, e5_6, e9_6, h0, hk⟩
 have e1_6 : sg6 1 = U _ := (fr6 1 rfl).trans rfl
 have e2_6 : sg6 2 = Pn _ _ := (fr6 2 rfl).trans rfl
 have e4_6 : sg6 4 = U _ := (fr6 4 rfl).trans rfl
 have e8_6 : sg6 8 = I _ := (fr6 8 rfl).trans rfl
 refine SR ?_
 refine V (run_lss e9_6 e8_6) ?_
 refine RL.nil ?_
 refine CW.seq ?_
 refine CW.condP rfl (fun h8 => ?_) (fun h8 => ?_)
 ·refine CW.skip ?_
  refine CW.seq ?_
  refine CW.block ?_
  refine SR ?_
  refine V (run_move e9_6) ?_
  refine V (aV (I _) rfl) ?_
  refine RL.nil ?_
  refine SR ?_
  refine V (run_ldRel underlying73 rfl rfl e2_6 (hH6.blk (i := 0) rfl)) ?_
  refine V (mV (I _) rfl) ?_
  refine RL.callP rfl hH6 (c_relate_row _ _ (by first | assumption | omega | (dsimp only at *; omega) | exact lst_at_bd (by assumption) (by assumption) | exact low_bd (lst_at (by assumption) (by assumption))) _) (run_call2 call111 rfl rfl) ?_
  intro w9 hH10
  refine V (run_move e1_6) ?_
  refine V (run_andU rfl rfl) ?_
  refine V (run_neqU rfl (b := 0#64) rfl) ?_
  refine RL.nil ?_
  refine CW.condP rfl (fun h12 => ?_) (fun h12 => ?_)
  ·refine CW.region ?_
   refine V (run_move e5_6) ?_
   refine V (mV (I _) rfl) ?_
   refine RL.callP rfl hH10 (c_mask_With _ _  _) (run_call2 call100 rfl rfl) ?_
   intro w13 hH14
   refine V (aV (U _) rfl) ?_
   refine RL.nil ?_
   refine CW.region ?_
   refine V (run_add e9_6 rfl (by omega)) ?_
   refine V (mV (I _) rfl) ?_
   refine RL.nil ?_
   refine ⟨k + 1, ?_, fr6.u4.u4.u4.u1.u1.u1, hH14, (congrArg U (by first | exact down_yes h0 (by omega) ‹_› | exact down_not h0 ‹_›)), (congrArg I (by first | rfl | omega)), ?_, ?_⟩
   ·((try dsimp only); omega)
   ·omega
   ·omega
  ·refine CW.skip ?_
   refine CW.region ?_
   refine V (run_add e9_6 rfl (by omega)) ?_
   refine V (mV (I _) rfl) ?_
   refine RL.nil ?_
   refine ⟨k + 1, ?_, fr6.u4.u4.u1.u1.u1, hH10, (Eq.trans e5_6 (congrArg U (by first | exact down_yes h0 (by omega) ‹_› | exact down_not h0 ‹_›))), (congrArg I (by first | rfl | omega)), ?_, ?_⟩
   ·((try dsimp only); omega)
   ·omega
   ·omega
 ·refine CW.exit (id := 0) rfl ?_
  refine SR ?_
  refine V (run_move e5_6) ?_
  refine V (aV (U _) rfl) ?_
  refine RL.nil ?_
  refine CW.ret ?_
  refine outP1 Tryd.results114 (congrArg U ?_) hH6.below
  (rw [show k = pts r by omega]; rfl)

theorem c_clearanceref03_Plain (r : Rl) (w : World) : Calls Tryd.prog 96 #[.agg (relC r)] w (Pure (.agg (relC (plainR r))) w) := by
 have hp := pts_bd r
 refine enter Tryd.func96 rfl Tryd.ntmps96 rfl ?_
 have hH := Hp.start w
 refine SR ?_
 refine RL.new rfl hH (f := fun b => (.pointer (some ⟨b, 0, none⟩))) (run_box (v := .agg _) rfl) ?_
 intro b3 w1 hH2
 refine RL.new rfl hH2 (f := fun b => (.pointer (some ⟨b, 0, none⟩))) (run_alloc zero_rel) ?_
 intro b6 w4 hH5
 refine RL.nil ?_
 refine SR ?_
 refine V (run_ldRel underlying73 rfl rfl rfl (hH5.blk (i := 1) rfl)) ?_
 refine RL.callP rfl hH5 (c_clearanceref03_Points _  _) (run_call1 call90 rfl) ?_
 intro w7 hH8
 refine V (run_bld (vs := [(0, I _)]) rfl (built_rel _)) ?_
 refine RL.new rfl hH8 (f := fun b => (.pointer (some ⟨b, 0, none⟩))) (run_alloc zero_rel) ?_
 intro b11 w9 hH10
 refine RL.set hH10 (i := 0) rfl (run_stRel rfl rfl rfl (hH10.blk (i := 0) rfl)) ?_
 intro w12 hH13
 simp only [z0, z1] at hH13
 refine RL.nil ?_
 refine CW.seq ?_
 refine SR ?_
 refine V (aV (I 0) rfl) ?_
 refine RL.nil ?_
 refine CW.block ?_
 have hz : (⟨pts r, fun _ => 0#64⟩ : Rl).n = pts r := rfl
 refine CW.loop (G := (Int) × (Rl)) (fun (⟨k, r1⟩ : (Int) × (Rl)) s' w' => (Fr [4, 5, 6, 10, 11, 12, 13, 14, 15, 16, 17, 18, 19, 20, 21, 22, 23, 24, 25, 26, 27, 28, 29, 30, 31, 32, 33, 34] _ s') ∧ (Hp w w' (.blk b11 (.cells (relC r1) 73 (0, 0)) :: _)) ∧ (s' 4 = I k) ∧ (0 ≤ k) ∧ (k ≤ pts r) ∧ (r1 = fillR (pts r) (fun i => rowR r i) k)) (fun (⟨k, r1⟩ : (Int) × (Rl)) => (pts r - k).toNat) ((0, ⟨pts r, fun _ => 0#64⟩)) ⟨Fr.refl _ _, hH13, rfl, (by omega), (by omega), fill_zero _ _⟩ ?_
 rintro ⟨k, r1⟩ sg14 w14 ⟨fr14, hH14, e4_14, h0, hk, hr⟩
 have e1_14 : sg14 1 = Pn _ _ := (fr14 1 rfl).trans rfl
 have e2_14 : sg14 2 = Pn _ _ := (fr14 2 rfl).trans rfl
 have e3_14 : sg14 3 = Pn _ _ := (fr14 3 rfl).trans rfl
 have hn : r1.n = pts r := by rw [hr]; rfl
 refine CW.seq ?_
 refine SR ?_
 refine V (run_move e4_14) ?_
 refine V (fA underlying73 0 rfl sizeOf3 e3_14) ?_
 refine V (run_ld underlying3 rfl rfl (hH14.cell (i := 0) rfl (relC_N _))) ?_
 refine V (run_lss rfl rfl) ?_
 refine RL.nil ?_
 refine CW.condP rfl (fun h16 => ?_) (fun h16 => ?_)
 ·refine CW.skip ?_
  refine CW.seq ?_
  refine CW.block ?_
  refine SR ?_
  refine V (aV (.slice none 0 0) rfl) ?_
  have hH17 := hH14.nilRow 3 1
  refine RL.nil ?_
  refine CW.seq ?_
  refine SR ?_
  refine V (aV (I 0) rfl) ?_
  refine RL.nil ?_
  refine CW.block ?_
  refine CW.loop (G := (Int) × (List Int) × (Value)) (fun (⟨j, l, v5⟩ : (Int) × (List Int) × (Value)) s' w' => (Fr [5, 6, 16, 17, 18, 19, 20, 21, 22, 23, 24, 25, 26, 27, 28, 29] _ s') ∧ (Hp w w' (.row v5 3 1 (l.length) (l.map I) :: _)) ∧ (s' 5 = v5) ∧ (s' 6 = I j) ∧ (0 ≤ j) ∧ (j ≤ pts r) ∧ (l = aboveTo r k j)) (fun (⟨j, l, v5⟩ : (Int) × (List Int) × (Value)) => (pts r - j).toNat) ((0, [], (.slice none 0 0 : Value))) ⟨Fr.refl _ _, hH17, rfl, rfl, (by omega), (by omega), rfl⟩ ?_
  rintro ⟨j, l, v5⟩ sg18 w18 ⟨fr18, hH18, e5_18, e6_18, j0, j1, hl⟩
  have e1_18 := (fr18 1 rfl).trans e1_14
  have e2_18 := (fr18 2 rfl).trans e2_14
  have e3_18 := (fr18 3 rfl).trans e3_14
  have e4_18 := (fr18 4 rfl).trans e4_14
  have e10_18 : sg18 10 = I _ := (fr18 10 rfl).trans rfl
  have e11_18 : sg18 11 = Pn _ _ := (fr18 11 rfl).trans rfl
  have e12_18 : sg18 12 = I _ := (fr18 12 rfl).trans rfl
  have e13_18 : sg18 13 = B _ := (fr18 13 rfl).trans rfl
  refine CW.seq ?_
  refine SR ?_
  refine V (run_move e6_18) ?_
  refine V (fA underlying73 0 rfl sizeOf3 e3_18) ?_
  refine V (run_ld underlying3 rfl rfl (hH18.cell (i := 1) rfl (relC_N _))) ?_
  refine V (run_lss rfl rfl) ?_
  refine RL.nil ?_
  refine CW.condP rfl (fun h20 => ?_) (fun h20 => ?_)
  ·refine CW.skip ?_
   refine CW.seq ?_
   refine CW.block ?_
   refine SR ?_
   refine V (run_ldRel underlying73 rfl rfl e1_18 (hH18.blk (i := 3) rfl)) ?_
   refine V (run_move e4_18) ?_
   refine V (run_move e6_18) ?_
   refine RL.callP rfl hH18 (c_clearanceref03_Has _ _ _  _) (run_call3 call91 rfl rfl rfl) ?_
   intro w21 hH22
   refine RL.nil ?_
   refine CW.cond rfl (fun h24 => ?_) (fun h24 => ?_)
   ·refine CW.region ?_
    refine V (run_move e5_18) ?_
    refine V (run_move e6_18) ?_
    refine RL.new rfl hH22 (f := fun b => (.slice (some ⟨b, 0, none⟩) 1 1)) (run_mkL underlying118 rfl rfl (sz := 1) (vs := [I _]) rfl rfl (by decide) (by decide) rfl rfl) ?_
    intro b27 w25 hH26
    (try simp only [List.flatMap_cons, List.flatMap_nil, clI, clB, clS, clP, clL, clA, List.append_nil, List.cons_append, List.nil_append] at hH26)
    refine RL.app rfl hH26 (i := 1) rfl (hH26.slBlk (i := 0) (n := 1) (sz := 1) rfl rfl (by decide)) rfl rfl underlying118 rfl rfl (size := 1) (bytes := 8) rfl rfl rfl (by decide) (by simp [Value.oneCell']) (by have := @above_len r k j; rw [← hl] at this; omega) (by have := @above_len r k j; rw [← hl] at this; simp only [maxLen]; omega) ?_
    intro v28 w29 hH30
    simp only [z0, z1] at hH30
    refine V (run_assign (by conv => lhs; whnf)) ?_
    refine RL.nil ?_
    refine CW.region ?_
    refine V (run_move e6_18) ?_
    refine V (run_add rfl rfl (by omega)) ?_
    refine V (aV (I _) rfl) ?_
    refine RL.nil ?_
    refine ⟨(j + 1, l ++ [j], v28), ?_, fr18.u4.u4.u4.u4, (Hp.conv (hH30.sub (sQ sR)) (by first | rfl | simp)), rfl, (congrArg I (by first | rfl | omega)), ?_, ?_, ?_⟩
    ·((try dsimp only); omega)
    ·omega
    ·omega
    ·first | (rw [hl]; exact above_yes j0 ‹_›) | (rw [hl]; exact above_not j0 ‹_›)
   ·refine CW.skip ?_
    refine CW.region ?_
    refine V (run_move e6_18) ?_
    refine V (run_add rfl rfl (by omega)) ?_
    refine V (aV (I _) rfl) ?_
    refine RL.nil ?_
    refine ⟨(j + 1, l, v5), ?_, fr18.u4.u4.u1.u1.u1, (Hp.conv hH22 (by first | rfl | simp)), e5_18, (congrArg I (by first | rfl | omega)), ?_, ?_, ?_⟩
    ·((try dsimp only); omega)
    ·omega
    ·omega
    ·first | (rw [hl]; exact above_yes j0 ‹_›) | (rw [hl]; exact above_not j0 ‹_›)
  ·refine CW.exit (id := 2) rfl ?_
   refine CW.region ?_
   refine V (run_move e4_18) ?_
   refine V (run_move e5_18) ?_
   refine RL.callP rfl hH18 (c_clearanceref01_Of _ _  _ (hH18.sl (i := 0) rfl)) (run_call1 call93 rfl) ?_
   intro w31 hH32
   refine V (fA underlying73 1 rfl sizeOf71 e3_18) ?_
   refine V (run_indexAddrA underlying71 sizeOf70 rfl rfl (by first | omega | (dsimp only at *; omega))) ?_
   refine RL.set hH32 (i := 1) rfl (run_st rfl rfl (v := U _) rfl rfl rfl (hH32.blk (i := 1) rfl) (by rw [relC_size]; omega)) ?_
   intro w33 hH34
   simp only [z0, z1] at hH34
   rw [relC_put] at hH34
   refine RL.nil ?_
   refine CW.region ?_
   refine V (run_move e4_18) ?_
   refine V (run_add rfl rfl (by omega)) ?_
   refine V (aV (I _) rfl) ?_
   refine RL.nil ?_
   refine ⟨(k + 1, _), ?_, (((fr14.u4.u1.u1).t fr18 rfl)).u4.u4.u4, (hH34.sub (sQ sR)), (congrArg I (by first | rfl | omega)), ?_, ?_, ?_⟩
   ·((try dsimp only); omega)
   ·omega
   ·omega
   ·rw [hr]; exact fill_put h0 (by rw [Int.toNat_of_nonneg h0, hl, show j = pts r by omega]; exact above_row ⟨h0, by omega⟩)
 ·refine CW.exit (id := 0) rfl ?_
  refine SR ?_
  refine V (run_ldRel underlying73 rfl rfl e3_14 (hH14.blk (i := 0) rfl)) ?_
  refine RL.set hH14 (i := 1) rfl (run_stRel rfl e2_14 rfl (hH14.blk (i := 1) rfl)) ?_
  intro w35 hH36
  simp only [z0, z1] at hH36
  refine RL.nil ?_
  refine CW.ret ?_
  refine outC Tryd.results96 e2_14 hH36 (i := 1) rfl underlying73 rfl rfl ⟨?_, hH36.below⟩
  (rw [hr, show k = pts r by omega]; rfl)

theorem c_relate_Closure (r : Rl) (w : World) : Calls Tryd.prog 82 #[.agg (relC r)] w (Pure (.agg (relC (cloR r))) w) := by
 have hp := pts_bd r
 have hn0 : (plainR r).n = pts r := rfl
 refine enter Tryd.func82 rfl Tryd.ntmps82 rfl ?_
 have hH := Hp.start w
 refine SR ?_
 refine RL.new rfl hH (f := fun b => (.pointer (some ⟨b, 0, none⟩))) (run_box (v := .agg _) rfl) ?_
 intro b3 w1 hH2
 refine RL.new rfl hH2 (f := fun b => (.pointer (some ⟨b, 0, none⟩))) (run_alloc zero_rel) ?_
 intro b6 w4 hH5
 refine RL.nil ?_
 refine SR ?_
 refine V (run_ldRel underlying73 rfl rfl rfl (hH5.blk (i := 1) rfl)) ?_
 refine RL.callP rfl hH5 (c_relate_plain _  _) (run_call1 call97 rfl) ?_
 intro w7 hH8
 refine RL.new rfl hH8 (f := fun b => (.pointer (some ⟨b, 0, none⟩))) (run_alloc zero_rel) ?_
 intro b11 w9 hH10
 refine RL.set hH10 (i := 0) rfl (run_stRel rfl rfl rfl (hH10.blk (i := 0) rfl)) ?_
 intro w12 hH13
 simp only [z0, z1] at hH13
 refine RL.nil ?_
 refine CW.seq ?_
 refine SR ?_
 refine V (fA underlying73 0 rfl sizeOf3 rfl) ?_
 refine V (run_ld underlying3 rfl rfl (hH13.cell (i := 0) rfl (relC_N _))) ?_
 refine V (mV (I 0) rfl) ?_
 refine RL.nil ?_
 refine CW.block ?_
 refine CW.loop (G := (Int) × (Rl)) (fun (⟨k, r1⟩ : (Int) × (Rl)) s' w' => (Fr [4, 11, 12, 13, 14, 15, 16, 17, 18, 19, 20, 21, 22, 23] _ s') ∧ (Hp w w' (.blk b11 (.cells (relC r1) 73 (0, 0)) :: _)) ∧ (s' 11 = I k) ∧ (0 ≤ k) ∧ (k ≤ pts r) ∧ (r1 = ⟨pts r, selfTo (plainR r).up k⟩)) (fun (⟨k, r1⟩ : (Int) × (Rl)) => (pts r - k).toNat) ((0, plainR r)) ⟨Fr.refl _ _, hH13, rfl, (by omega), (by omega), self_zero _ _⟩ ?_
 rintro ⟨k, r1⟩ sg14 w14 ⟨fr14, hH14, e11_14, h0, hk, hr⟩
 have e2_14 : sg14 2 = Pn _ _ := (fr14 2 rfl).trans rfl
 have e3_14 : sg14 3 = Pn _ _ := (fr14 3 rfl).trans rfl
 have e10_14 : sg14 10 = I _ := (fr14 10 rfl).trans rfl
 have hn : r1.n = pts r := by rw [hr]
 refine SR ?_
 refine V (run_lss e11_14 e10_14) ?_
 refine RL.nil ?_
 refine CW.seq ?_
 refine CW.condP rfl (fun h16 => ?_) (fun h16 => ?_)
 ·refine CW.skip ?_
  refine CW.seq ?_
  refine CW.block ?_
  refine SR ?_
  refine V (run_move e11_14) ?_
  refine V (aV (I _) rfl) ?_
  refine RL.nil ?_
  refine CW.region ?_
  refine V (mV (I _) rfl) ?_
  refine V (mV (I _) rfl) ?_
  refine V (fA underlying73 1 rfl sizeOf71 e3_14) ?_
  refine V (run_indexAddrA underlying71 sizeOf70 rfl rfl (by first | omega | (dsimp only at *; omega))) ?_
  refine V (run_ld underlying70 rfl rfl (hH14.cell (i := 0) rfl (relC_up _ (by omega)))) ?_
  refine V (mV (I _) rfl) ?_
  refine RL.callP rfl hH14 (c_mask_With _ _  _) (run_call2 call100 rfl rfl) ?_
  intro w17 hH18
  refine V (fA underlying73 1 rfl sizeOf71 e3_14) ?_
  refine V (run_indexAddrA underlying71 sizeOf70 rfl rfl (by first | omega | (dsimp only at *; omega))) ?_
  refine RL.set hH18 (i := 0) rfl (run_st rfl rfl (v := U _) rfl rfl rfl (hH18.blk (i := 0) rfl) (by rw [relC_size]; omega)) ?_
  intro w19 hH20
  simp only [z0, z1] at hH20
  rw [relC_put] at hH20
  refine RL.nil ?_
  refine CW.region ?_
  refine V (run_add e11_14 rfl (by omega)) ?_
  refine V (mV (I _) rfl) ?_
  refine RL.nil ?_
  refine ⟨(k + 1, _), ?_, fr14.u4.u4.u4.u1.u1, hH20, (congrArg I (by first | rfl | omega)), ?_, ?_, ?_⟩
  ·((try dsimp only); omega)
  ·omega
  ·omega
  ·rw [hr]; exact self_put h0
 ·refine CW.exit (id := 0) rfl ?_
  refine CW.seq ?_
  refine SR ?_
  refine V (fA underlying73 0 rfl sizeOf3 e3_14) ?_
  refine V (run_ld underlying3 rfl rfl (hH14.cell (i := 0) rfl (relC_N _))) ?_
  refine V (mV (I 0) rfl) ?_
  refine RL.nil ?_
  refine CW.block ?_
  refine CW.loop (G := (Int) × (Rl)) (fun (⟨m, r2⟩ : (Int) × (Rl)) s' w' => (Fr [5, 6, 26, 27, 28, 29, 30, 31, 32, 33, 34, 35, 36, 37, 38, 39, 40, 41, 42, 43, 44, 45, 46, 47, 48, 49, 50, 51, 52] _ s') ∧ (Hp w w' (.blk b11 (.cells (relC r2) 73 (0, 0)) :: _)) ∧ (s' 26 = I m) ∧ (0 ≤ m) ∧ (m ≤ pts r) ∧ (r2 = ⟨pts r, wall (pts r) (selfTo (plainR r).up (pts r)) m.toNat⟩)) (fun (⟨m, r2⟩ : (Int) × (Rl)) => (pts r - m).toNat) ((0, r1)) ⟨Fr.refl _ _, hH14, rfl, (by omega), (by omega), (by rw [hr, show k = pts r by omega]; rfl)⟩ ?_
  rintro ⟨m, r2⟩ sg21 w21 ⟨fr21, hH21, e26_21, m0, m1, hr2⟩
  have e2_21 := (fr21 2 rfl).trans e2_14
  have e3_21 := (fr21 3 rfl).trans e3_14
  have e25_21 : sg21 25 = I _ := (fr21 25 rfl).trans rfl
  have hn2 : r2.n = pts r := by rw [hr2]
  refine SR ?_
  refine V (run_lss e26_21 e25_21) ?_
  refine RL.nil ?_
  refine CW.seq ?_
  refine CW.condP rfl (fun h23 => ?_) (fun h23 => ?_)
  ·refine CW.skip ?_
   refine CW.seq ?_
   refine CW.block ?_
   refine SR ?_
   refine V (run_move e26_21) ?_
   refine V (aV (I _) rfl) ?_
   refine RL.nil ?_
   refine SR ?_
   refine V (fA underlying73 0 rfl sizeOf3 e3_21) ?_
   refine V (run_ld underlying3 rfl rfl (hH21.cell (i := 0) rfl (relC_N _))) ?_
   refine V (mV (I 0) rfl) ?_
   refine RL.nil ?_
   refine CW.block ?_
   refine CW.loop (G := (Int) × (Rl)) (fun (⟨i, r3⟩ : (Int) × (Rl)) s' w' => (Fr [6, 31, 32, 33, 34, 35, 36, 37, 38, 39, 40, 41, 42, 43, 44, 45, 46, 47, 48, 49, 50, 51] _ s') ∧ (Hp w w' (.blk b11 (.cells (relC r3) 73 (0, 0)) :: _)) ∧ (s' 31 = I i) ∧ (0 ≤ i) ∧ (i ≤ pts r) ∧ (r3 = ⟨pts r, passTo m.toNat i r2.up⟩)) (fun (⟨i, r3⟩ : (Int) × (Rl)) => (pts r - i).toNat) ((0, r2)) ⟨Fr.refl _ _, hH21, rfl, (by omega), (by omega), (by rw [hr2]; exact pass_zero _ _ _)⟩ ?_
   rintro ⟨i, r3⟩ sg24 w24 ⟨fr24, hH24, e31_24, i0, i1, hr3⟩
   have e2_24 := (fr24 2 rfl).trans e2_21
   have e3_24 := (fr24 3 rfl).trans e3_21
   have e5_24 : sg24 5 = I _ := (fr24 5 rfl).trans rfl
   have e25_24 := (fr24 25 rfl).trans e25_21
   have e26_24 := (fr24 26 rfl).trans e26_21
   have e27_24 : sg24 27 = B _ := (fr24 27 rfl).trans rfl
   have e28_24 : sg24 28 = I _ := (fr24 28 rfl).trans rfl
   have e29_24 : sg24 29 = Pn _ _ := (fr24 29 rfl).trans rfl
   have e30_24 : sg24 30 = I _ := (fr24 30 rfl).trans rfl
   have hn3 : r3.n = pts r := by rw [hr3]
   refine SR ?_
   refine V (run_lss e31_24 e30_24) ?_
   refine RL.nil ?_
   refine CW.seq ?_
   refine CW.condP rfl (fun h26 => ?_) (fun h26 => ?_)
   ·refine CW.skip ?_
    refine CW.seq ?_
    refine CW.block ?_
    refine SR ?_
    refine V (run_move e31_24) ?_
    refine V (aV (I _) rfl) ?_
    refine RL.nil ?_
    refine SR ?_
    refine V (mV (I _) rfl) ?_
    refine V (fA underlying73 1 rfl sizeOf71 e3_24) ?_
    refine V (run_indexAddrA underlying71 sizeOf70 rfl rfl (by first | omega | (dsimp only at *; omega))) ?_
    refine V (run_ld underlying70 rfl rfl (hH24.cell (i := 0) rfl (relC_up _ (by omega)))) ?_
    refine V (run_move e5_24) ?_
    refine RL.callP rfl hH24 (c_mask_Has _ _  _) (run_call2 call101 rfl rfl) ?_
    intro w27 hH28
    refine RL.nil ?_
    refine CW.cond rfl (fun h30 => ?_) (fun h30 => ?_)
    ·refine CW.regionS (by kernel_rfl) hH28 (sQ sR) ?_
     intro w31 hH32
     refine AT 0 rfl (hH32.sub (sQ sR)) (fun w hS => mV (I _) rfl) ?_
     refine AT 1 rfl (hH32.sub (sQ sR)) (fun w hS => fA underlying73 1 rfl sizeOf71 e3_24) ?_
     refine AT 2 rfl (hH32.sub (sQ sR)) (fun w hS => run_indexAddrA underlying71 sizeOf70 rfl rfl (by first | omega | (dsimp only at *; omega))) ?_
     refine AT 4 rfl (hH32.sub (sQ sR)) (fun w hS => run_move e5_24) ?_
     refine AT 5 rfl (hH32.sub (sQ sR)) (fun w hS => fA underlying73 1 rfl sizeOf71 e3_24) ?_
     refine AT 6 rfl (hH32.sub (sQ sR)) (fun w hS => run_indexAddrA underlying71 sizeOf70 rfl rfl (by first | omega | (dsimp only at *; omega))) ?_
     refine AT 9 rfl (hH32.sub (sQ sR)) (fun w hS => fA underlying73 1 rfl sizeOf71 e3_24) ?_
     refine AN.two 3 7 (by kernel_rfl) ?_ ?_
     ·refine AO.read rfl gnone rfl hH32 (sQ sR) (run_ld underlying70 rfl rfl (hH32.cell (i := 0) rfl (relC_up _ (by omega)))) ?_
      refine A1 7 ?_
      refine AO.read rfl gnone rfl hH32 (sQ sR) (run_ld underlying70 rfl rfl (hH32.cell (i := 0) rfl (relC_up _ (by omega)))) ?_
      refine AT 8 rfl (hH32.sub (sQ sR)) (fun w hS => run_orU rfl rfl) ?_
      refine AT 10 rfl (hH32.sub (sQ sR)) (fun w hS => run_indexAddrA underlying71 sizeOf70 rfl rfl (by first | omega | (dsimp only at *; omega))) ?_
      refine A1 11 ?_
      refine AO.set rfl gnone hH32 (j := 0) rfl (sQ sR) (run_st rfl rfl (v := U _) rfl rfl rfl (hH32.blk (i := 0) rfl) (by rw [relC_size]; omega)) ?_
      intro w39 hH40
      simp only [z0, z1] at hH40
      rw [relC_put] at hH40
      refine AD ?_
      refine CW.region ?_
      refine V (run_add e31_24 rfl (by omega)) ?_
      refine V (mV (I _) rfl) ?_
      refine RL.nil ?_
      refine ⟨(i + 1, _), ?_, fr24.u4.u4.u4.u4.u4.u1.u1, hH40, (congrArg I (by first | rfl | omega)), ?_, ?_, ?_⟩
      ·((try dsimp only); omega)
      ·omega
      ·omega
      ·first | (rw [hr3] at *; exact pass_yes m0 i0 ‹_›) | (rw [hr3] at *; exact pass_not ⟨m0, by omega⟩ i0 ‹_›)
     ·refine AO.read rfl gnone rfl hH32 (sQ sR) (run_ld underlying70 rfl rfl (hH32.cell (i := 0) rfl (relC_up _ (by omega)))) ?_
      refine A1 3 ?_
      refine AO.read rfl gnone rfl hH32 (sQ sR) (run_ld underlying70 rfl rfl (hH32.cell (i := 0) rfl (relC_up _ (by omega)))) ?_
      refine AT 8 rfl (hH32.sub (sQ sR)) (fun w hS => run_orU rfl rfl) ?_
      refine AT 10 rfl (hH32.sub (sQ sR)) (fun w hS => run_indexAddrA underlying71 sizeOf70 rfl rfl (by first | omega | (dsimp only at *; omega))) ?_
      refine A1 11 ?_
      refine AO.set rfl gnone hH32 (j := 0) rfl (sQ sR) (run_st rfl rfl (v := U _) rfl rfl rfl (hH32.blk (i := 0) rfl) (by rw [relC_size]; omega)) ?_
      intro w47 hH48
      simp only [z0, z1] at hH48
      rw [relC_put] at hH48
      refine AD ?_
      refine CW.region ?_
      refine V (run_add e31_24 rfl (by omega)) ?_
      refine V (mV (I _) rfl) ?_
      refine RL.nil ?_
      refine ⟨(i + 1, _), ?_, fr24.u4.u4.u4.u4.u4.u1.u1, hH48, (congrArg I (by first | rfl | omega)), ?_, ?_, ?_⟩
      ·((try dsimp only); omega)
      ·omega
      ·omega
      ·first | (rw [hr3] at *; exact pass_yes m0 i0 ‹_›) | (rw [hr3] at *; exact pass_not ⟨m0, by omega⟩ i0 ‹_›)
    ·refine CW.skip ?_
     refine CW.region ?_
     refine V (run_add e31_24 rfl (by omega)) ?_
     refine V (mV (I _) rfl) ?_
     refine RL.nil ?_
     refine ⟨(i + 1, _), ?_, fr24.u4.u4.u1.u1.u1, hH28, (congrArg I (by first | rfl | omega)), ?_, ?_, ?_⟩
     ·((try dsimp only); omega)
     ·omega
     ·omega
     ·first | (rw [hr3] at *; exact pass_yes m0 i0 ‹_›) | (rw [hr3] at *; exact pass_not ⟨m0, by omega⟩ i0 ‹_›)
   ·refine CW.exit (id := 4) rfl ?_
    refine CW.region ?_
    refine V (run_add e26_24 rfl (by omega)) ?_
    refine V (mV (I _) rfl) ?_
    refine RL.nil ?_
    refine ⟨(m + 1, _), ?_, (((fr21.u4.u1.u1).t fr24 rfl)).u1.u1.u1, hH24, (congrArg I (by first | rfl | omega)), ?_, ?_, ?_⟩
    ·((try dsimp only); omega)
    ·omega
    ·omega
    ·rw [hr3, hr2, show i = pts r by omega]; exact wall_next m0
  ·refine CW.exit (id := 2) rfl ?_
   refine SR ?_
   refine V (run_ldRel underlying73 rfl rfl e3_21 (hH21.blk (i := 0) rfl)) ?_
   refine RL.set hH21 (i := 1) rfl (run_stRel rfl e2_21 rfl (hH21.blk (i := 1) rfl)) ?_
   intro w49 hH50
   simp only [z0, z1] at hH50
   refine RL.nil ?_
   refine CW.ret ?_
   refine outC Tryd.results82 e2_21 hH50 (i := 1) rfl underlying73 rfl rfl ⟨?_, hH50.below⟩
   (rw [hr2, show m = pts r by omega]; rfl)

theorem c_relate_Same (a b : Rl) (w : World) : Calls Tryd.prog 79 #[.agg (relC a), .agg (relC b)] w (Pure (B (decide ((plainR a).eq (plainR b)))) w) := by
 refine enter Tryd.func79 rfl Tryd.ntmps79 rfl ?_
 have hH := Hp.start w
 refine SR ?_
 refine RL.new rfl hH (f := fun b => (.pointer (some ⟨b, 0, none⟩))) (run_box (v := .agg _) rfl) ?_
 intro b3 w1 hH2
 refine RL.new rfl hH2 (f := fun b => (.pointer (some ⟨b, 0, none⟩))) (run_box (v := .agg _) rfl) ?_
 intro b6 w4 hH5
 refine V (aV (B false) rfl) ?_
 refine RL.nil ?_
 refine CW.seq ?_
 refine CW.regionD (by kernel_rfl) hH5 ?_
 intro w7 hH8
 refine AT 0 rfl (hH8.sub sR) (fun w hS => run_ldRel underlying73 rfl rfl rfl (hS.blk (i := 1) rfl)) ?_
 refine AT 2 rfl (hH8.sub sR) (fun w hS => run_ldRel underlying73 rfl rfl rfl (hS.blk (i := 0) rfl)) ?_
 refine A1 1 ?_
 refine AO.callP rfl gnone rfl hH8 sR (c_relate_plain _  _) (run_call1 call97 rfl) ?_
 intro w9 hH10
 refine A1 3 ?_
 refine AO.callP rfl gnone rfl hH10 sR (c_relate_plain _  _) (run_call1 call97 rfl) ?_
 intro w11 hH12
 refine AT 4 rfl (hH12.sub sR) (fun w hS => run_eqlRel relT_fact rfl rfl) ?_
 refine AT 5 rfl (hH12.sub sR) (fun w hS => aV (B _) rfl) ?_
 refine AD ?_
 refine CW.ret ?_
 refine outP1 Tryd.results79 (congrArg B ?_) hH12.below
 rfl

theorem c_clearanceref03_Same (a b : Rl) (w : World) : Calls Tryd.prog 77 #[.agg (relC a), .agg (relC b)] w (Pure (B (decide ((plainR a).eq (plainR b)))) w) := by
 refine enter Tryd.func77 rfl Tryd.ntmps77 rfl ?_
 have hH := Hp.start w
 refine SR ?_
 refine RL.new rfl hH (f := fun b => (.pointer (some ⟨b, 0, none⟩))) (run_box (v := .agg _) rfl) ?_
 intro b3 w1 hH2
 refine RL.new rfl hH2 (f := fun b => (.pointer (some ⟨b, 0, none⟩))) (run_box (v := .agg _) rfl) ?_
 intro b6 w4 hH5
 refine V (aV (B false) rfl) ?_
 refine RL.nil ?_
 refine CW.seq ?_
 refine CW.regionD (by kernel_rfl) hH5 ?_
 intro w7 hH8
 refine AT 0 rfl (hH8.sub sR) (fun w hS => run_ldRel underlying73 rfl rfl rfl (hS.blk (i := 1) rfl)) ?_
 refine AT 2 rfl (hH8.sub sR) (fun w hS => run_ldRel underlying73 rfl rfl rfl (hS.blk (i := 0) rfl)) ?_
 refine A1 1 ?_
 refine AO.callP rfl gnone rfl hH8 sR (c_clearanceref03_Plain _  _) (run_call1 call96 rfl) ?_
 intro w9 hH10
 refine A1 3 ?_
 refine AO.callP rfl gnone rfl hH10 sR (c_clearanceref03_Plain _  _) (run_call1 call96 rfl) ?_
 intro w11 hH12
 refine AT 4 rfl (hH12.sub sR) (fun w hS => run_eqlRel relT_fact rfl rfl) ?_
 refine AT 5 rfl (hH12.sub sR) (fun w hS => aV (B _) rfl) ?_
 refine AD ?_
 refine CW.ret ?_
 refine outP1 Tryd.results77 (congrArg B ?_) hH12.below
 rfl

theorem c_relate_Closed (r : Rl) (w : World) : Calls Tryd.prog 98 #[.agg (relC r)] w (Pure (B (decide ((plainR r).eq (cloR r)))) w) := by
 refine enter Tryd.func98 rfl Tryd.ntmps98 rfl ?_
 have hH := Hp.start w
 refine SR ?_
 refine RL.new rfl hH (f := fun b => (.pointer (some ⟨b, 0, none⟩))) (run_box (v := .agg _) rfl) ?_
 intro b3 w1 hH2
 refine V (aV (B false) rfl) ?_
 refine RL.nil ?_
 refine CW.seq ?_
 refine CW.regionD (by kernel_rfl) hH2 ?_
 intro w4 hH5
 refine AT 0 rfl (hH5.sub sR) (fun w hS => run_ldRel underlying73 rfl rfl rfl (hS.blk (i := 0) rfl)) ?_
 refine AT 2 rfl (hH5.sub sR) (fun w hS => run_ldRel underlying73 rfl rfl rfl (hS.blk (i := 0) rfl)) ?_
 refine A1 1 ?_
 refine AO.callP rfl gnone rfl hH5 sR (c_relate_plain _  _) (run_call1 call97 rfl) ?_
 intro w6 hH7
 refine A1 3 ?_
 refine AO.callP rfl gnone rfl hH7 sR (c_relate_Closure _  _) (run_call1 call82 rfl) ?_
 intro w8 hH9
 refine AT 4 rfl (hH9.sub sR) (fun w hS => run_eqlRel relT_fact rfl rfl) ?_
 refine AT 5 rfl (hH9.sub sR) (fun w hS => aV (B _) rfl) ?_
 refine AD ?_
 refine CW.ret ?_
 refine outP1 Tryd.results98 (congrArg B ?_) hH9.below
 rfl

theorem c_relate_New (n : Int) (w : World) : Calls Tryd.prog 102 #[I n] w (Pure (.agg (relC (newR n))) w) := by
 refine enter Tryd.func102 rfl Tryd.ntmps102 rfl ?_
 have hH := Hp.start w
 refine SR ?_
 refine RL.new rfl hH (f := fun b => (.pointer (some ⟨b, 0, none⟩))) (run_alloc zero_rel) ?_
 intro b3 w1 hH2
 refine RL.nil ?_
 refine SR ?_
 refine V (mV (I _) rfl) ?_
 refine V (run_bld (vs := [(0, I _)]) rfl (built_rel _)) ?_
 refine RL.callP rfl hH2 (c_relate_points _  _) (run_call1 call104 rfl) ?_
 intro w4 hH5
 refine V (run_bld (vs := [(0, I _)]) rfl (built_rel _)) ?_
 refine RL.set hH5 (i := 0) rfl (run_stRel rfl rfl rfl (hH5.blk (i := 0) rfl)) ?_
 intro w6 hH7
 simp only [z0, z1] at hH7
 refine RL.nil ?_
 refine CW.ret ?_
 refine outC Tryd.results102 rfl hH7 (i := 0) rfl underlying73 rfl rfl ⟨?_, hH7.below⟩
 rfl

theorem c_relate_Of (n : Int) (v : Value) (l : List (Int × Int)) (w : World) (hs : Sl w v 2 l.length (prL l)) : Calls Tryd.prog 83 #[I n, v] w (Pure (.agg (relC (ofR n l))) w) := by
 have hm := hs.small
 unfold maxLen at hm
 refine enter Tryd.func83 rfl Tryd.ntmps83 rfl ?_
 have hH := Hp.start w
 refine SR ?_
 refine RL.new rfl hH (f := fun b => (.pointer (some ⟨b, 0, none⟩))) (run_alloc zero_rel) ?_
 intro b3 w1 hH2
 refine RL.nil ?_
 refine SR ?_
 refine V (mV (I _) rfl) ?_
 refine RL.callP rfl hH2 (c_relate_New _  _) (run_call1 call102 rfl) ?_
 intro w4 hH5
 refine RL.new rfl hH5 (f := fun b => (.pointer (some ⟨b, 0, none⟩))) (run_alloc zero_rel) ?_
 intro b8 w6 hH7
 refine RL.set hH7 (i := 0) rfl (run_stRel rfl rfl rfl (hH7.blk (i := 0) rfl)) ?_
 intro w9 hH10
 simp only [z0, z1] at hH10
 refine RL.nil ?_
 refine CW.seq ?_
 refine SR ?_
 refine V (run_move (by conv => lhs; whnf)) ?_
 refine V (run_lenSl (hs.hp hH10) rfl underlying108 rfl) ?_
 refine V (mV (I 0) rfl) ?_
 refine RL.nil ?_
 refine CW.block ?_
 refine CW.loop (G := (Int) × (Rl)) (fun (⟨k, r1⟩ : (Int) × (Rl)) s' w' => (Fr [7, 12, 13, 14, 15, 16, 17, 18, 19, 20, 21, 22, 23, 24, 25, 26, 27, 28, 29, 30, 31, 32, 33, 34, 35, 36, 37, 38] _ s') ∧ (Hp w w' (.blk b8 (.cells (relC r1) 73 (0, 0)) :: _)) ∧ (s' 12 = I k) ∧ (0 ≤ k) ∧ (k ≤ l.length) ∧ (r1 = (l.take k.toNat).foldl addP (newR n))) (fun (⟨k, r1⟩ : (Int) × (Rl)) => (l.length - k).toNat) ((0, newR n)) ⟨Fr.refl _ _, hH10, rfl, (by omega), (by omega), rfl⟩ ?_
 rintro ⟨k, r1⟩ sg11 w11 ⟨fr11, hH11, e12_11, h0, hk, hr⟩
 have e4_11 : sg11 4 = Pn _ _ := (fr11 4 rfl).trans rfl
 have e5_11 : sg11 5 = Pn _ _ := (fr11 5 rfl).trans rfl
 have e10_11 := (fr11 10 rfl).trans (by conv => lhs; whnf)
 have e11_11 : sg11 11 = I _ := (fr11 11 rfl).trans rfl
 refine SR ?_
 refine V (run_lss e12_11 e11_11) ?_
 refine RL.nil ?_
 refine CW.seq ?_
 refine CW.condP rfl (fun h13 => ?_) (fun h13 => ?_)
 ·refine CW.skip ?_
  refine CW.seq ?_
  refine CW.block ?_
  refine SR ?_
  refine V (run_indexAddrS (hs.hp hH11) underlying108 sizeOf110 e10_11 e12_11 (by first | exact isP_lt ‹isP r1 _ = true› | omega)) ?_
  refine V (run_ldPair (hs.hp hH11) underlying110 rfl rfl rfl (by first | exact isP_lt ‹isP r1 _ = true› | omega)) ?_
  refine RL.new rfl hH11 (f := fun b => (.pointer (some ⟨b, 0, none⟩))) (run_alloc Tryd.zeroValue110) ?_
  intro b16 w14 hH15
  refine RL.set hH15 (i := 0) rfl (run_stW (c' := #[I _, I _]) rfl rfl rfl (pair_one _ _) (hH15.blk (i := 0) rfl) rfl) ?_
  intro w17 hH18
  simp only [z0, z1] at hH18
  refine RL.nil ?_
  refine SR ?_
  refine V (run_ldRel underlying73 rfl rfl e5_11 (hH18.blk (i := 1) rfl)) ?_
  refine V (fA underlying110 0 rfl sizeOf3 rfl) ?_
  refine V (run_ld underlying3 rfl rfl (hH18.cell (i := 0) rfl (v := I _) rfl)) ?_
  refine RL.callP rfl hH18 (c_relate_is _ _  _) (run_call2 call103 rfl rfl) ?_
  intro w19 hH20
  refine V (mV (B _) rfl) ?_
  refine RL.split (dj := 20) rfl (fun h22 => ?_) (fun h22 => ?_)
  ·refine RL.gT rfl (bR (c := true) h22) ?_
   refine V (run_ldRel underlying73 rfl rfl e5_11 (hH20.blk (i := 1) rfl)) ?_
   refine RL.gT rfl (bR (c := true) h22) ?_
   refine V (fA underlying110 1 rfl sizeOf3 rfl) ?_
   refine RL.gT rfl (bR (c := true) h22) ?_
   refine V (run_ld underlying3 rfl rfl (hH20.cell (i := 0) rfl (v := I _) rfl)) ?_
   refine RL.gT rfl (bR (c := true) h22) ?_
   refine RL.callP rfl hH20 (c_relate_is _ _  _) (run_call2 call103 rfl rfl) ?_
   intro w23 hH24
   refine V (run_pickT (bR (c := true) h22) (v := B _) rfl) ?_
   refine RL.nil ?_
   refine CW.cond rfl (fun h26 => ?_) (fun h26 => ?_)
   ·refine CW.regionS (by kernel_rfl) hH24 (sP (sQ sR)) ?_
    intro w27 hH28
    refine AT 0 rfl (hH28.sub (sP (sQ sR))) (fun w hS => fA underlying110 0 rfl sizeOf3 rfl) ?_
    refine AT 1 rfl (hH28.sub (sP (sQ sR))) (fun w hS => run_ld underlying3 rfl rfl (hS.cell (i := 0) rfl (v := I _) rfl)) ?_
    refine AT 2 rfl (hH28.sub (sP (sQ sR))) (fun w hS => fA underlying110 0 rfl sizeOf3 rfl) ?_
    refine AT 3 rfl (hH28.sub (sP (sQ sR))) (fun w hS => run_ld underlying3 rfl rfl (hS.cell (i := 0) rfl (v := I _) rfl)) ?_
    refine AT 4 rfl (hH28.sub (sP (sQ sR))) (fun w hS => fA underlying73 1 rfl sizeOf71 e5_11) ?_
    refine AT 5 rfl (hH28.sub (sP (sQ sR))) (fun w hS => run_indexAddrA underlying71 sizeOf70 rfl rfl (by first | exact isP_lt ‹isP r1 _ = true› | omega)) ?_
    refine AT 7 rfl (hH28.sub (sP (sQ sR))) (fun w hS => fA underlying110 1 rfl sizeOf3 rfl) ?_
    refine AT 8 rfl (hH28.sub (sP (sQ sR))) (fun w hS => run_ld underlying3 rfl rfl (hS.cell (i := 0) rfl (v := I _) rfl)) ?_
    refine AT 10 rfl (hH28.sub (sP (sQ sR))) (fun w hS => fA underlying73 1 rfl sizeOf71 e5_11) ?_
    refine A1 6 ?_
    refine AO.read rfl gnone rfl hH28 (sP (sQ sR)) (run_ld underlying70 rfl rfl (hH28.cell (i := 1) rfl (relC_up _ (by have := isP_lt ‹isP r1 (l.getD k.toNat (0, 0)).1 = true›; omega)))) ?_
    refine A1 9 ?_
    refine AO.callP rfl gnone rfl hH28 (sP (sQ sR)) (c_mask_With _ _  _) (run_call2 call100 rfl rfl) ?_
    intro w31 hH32
    refine AT 11 rfl (hH32.sub (sP (sQ sR))) (fun w hS => run_indexAddrA underlying71 sizeOf70 rfl rfl (by first | exact isP_lt ‹isP r1 _ = true› | omega)) ?_
    refine A1 12 ?_
    refine AO.set rfl gnone hH32 (j := 1) rfl (sP (sQ sR)) (run_st rfl rfl (v := U _) rfl rfl rfl (hH32.blk (i := 1) rfl) (by rw [relC_size]; have := isP_lt ‹isP r1 (l.getD k.toNat (0, 0)).1 = true›; omega)) ?_
    intro w35 hH36
    simp only [z0, z1] at hH36
    rw [relC_put] at hH36
    refine AD ?_
    refine CW.region ?_
    refine V (run_add e12_11 rfl (by omega)) ?_
    refine V (mV (I _) rfl) ?_
    refine RL.nil ?_
    refine ⟨(k + 1, _), ?_, fr11.u4.u4.u4.u4.u4.u4.u4, (hH36.sub (sQ sR)), (congrArg I (by first | rfl | omega)), ?_, ?_, ?_⟩
    ·((try dsimp only); omega)
    ·omega
    ·omega
    ·rw [of_next h0 ‹_›, ← hr]; first | exact (addP_yes ‹_› ‹_›).symm | exact (addP_no1 ‹_›).symm | exact (addP_no2 ‹_›).symm
   ·refine CW.skip ?_
    refine CW.region ?_
    refine V (run_add e12_11 rfl (by omega)) ?_
    refine V (mV (I _) rfl) ?_
    refine RL.nil ?_
    refine ⟨(k + 1, _), ?_, fr11.u4.u4.u4.u4, (hH24.sub (sQ sR)), (congrArg I (by first | rfl | omega)), ?_, ?_, ?_⟩
    ·((try dsimp only); omega)
    ·omega
    ·omega
    ·rw [of_next h0 ‹_›, ← hr]; first | exact (addP_yes ‹_› ‹_›).symm | exact (addP_no1 ‹_›).symm | exact (addP_no2 ‹_›).symm
  ·refine RL.gF rfl rfl (bR (c := false) h22) rfl ?_
   refine RL.gF rfl rfl (bR (c := false) h22) rfl ?_
   refine RL.gF rfl rfl (bR (c := false) h22) rfl ?_
   refine RL.gF rfl rfl (bR (c := false) h22) rfl ?_
   refine V (run_pickF (bR (c := false) h22) (v := B false) rfl) ?_
   refine RL.nil ?_
   refine CW.condF rfl ?_
   refine CW.skip ?_
   refine CW.region ?_
   refine V (run_add e12_11 rfl (by omega)) ?_
   refine V (mV (I _) rfl) ?_
   refine RL.nil ?_
   refine ⟨(k + 1, _), ?_, fr11.u4.u4.u4.u4, (hH20.sub (sQ sR)), (congrArg I (by first | rfl | omega)), ?_, ?_, ?_⟩
   ·((try dsimp only); omega)
   ·omega
   ·omega
   ·rw [of_next h0 ‹_›, ← hr]; first | exact (addP_yes ‹_› ‹_›).symm | exact (addP_no1 ‹_›).symm | exact (addP_no2 ‹_›).symm
 ·refine CW.exit (id := 0) rfl ?_
  refine SR ?_
  refine V (run_ldRel underlying73 rfl rfl e5_11 (hH11.blk (i := 0) rfl)) ?_
  refine RL.set hH11 (i := 1) rfl (run_stRel rfl e4_11 rfl (hH11.blk (i := 1) rfl)) ?_
  intro w37 hH38
  simp only [z0, z1] at hH38
  refine RL.nil ?_
  refine CW.ret ?_
  refine outC Tryd.results83 e4_11 hH38 (i := 1) rfl underlying73 rfl rfl ⟨?_, hH38.below⟩
  (rw [hr, List.take_of_length_le (by omega)]; rfl)

theorem c_relate_mutual (r : Rl) (i : Int) (w : World) (hT : Tab w) : Calls Tryd.prog 105 #[.agg (relC r), I i] w (Pure (U (mutualR r i)) w) := by
 refine enter Tryd.func105 rfl Tryd.ntmps105 rfl ?_
 have hH := Hp.start w
 refine SR ?_
 refine RL.new rfl hH (f := fun b => (.pointer (some ⟨b, 0, none⟩))) (run_box (v := .agg _) rfl) ?_
 intro b3 w1 hH2
 refine V (aV (U 0#64) rfl) ?_
 refine RL.nil ?_
 refine SR ?_
 refine V (mV (I _) rfl) ?_
 refine RL.new rfl hH2 (f := fun b => (.slice (some ⟨b, 0, none⟩) 1 1)) (run_mkL underlying118 rfl rfl (sz := 1) (vs := [I _]) rfl rfl (by decide) (by decide) rfl rfl) ?_
 intro b6 w4 hH5
 (try simp only [List.flatMap_cons, List.flatMap_nil, clI, clB, clS, clP, clL, clA, List.append_nil, List.cons_append, List.nil_append] at hH5)
 refine RL.callP rfl hH5 (c_mask_Of _ [i] _ (hH5.slBlk (i := 0) (n := 1) (sz := 1) rfl rfl (by decide))) (run_call1 call106 rfl) ?_
 intro w7 hH8
 refine V (aV (U _) rfl) ?_
 refine RL.nil ?_
 refine CW.seq ?_
 refine CW.regionD (by kernel_rfl) hH8 ?_
 intro w9 hH10
 refine AT 0 rfl (hH10.sub sR) (fun w hS => run_ldRel underlying73 rfl rfl rfl (hS.blk (i := 1) rfl)) ?_
 refine AT 1 rfl (hH10.sub sR) (fun w hS => mV (U _) rfl) ?_
 refine AT 3 rfl (hH10.sub sR) (fun w hS => run_ldRel underlying73 rfl rfl rfl (hS.blk (i := 1) rfl)) ?_
 refine AT 4 rfl (hH10.sub sR) (fun w hS => mV (U _) rfl) ?_
 refine A1 2 ?_
 refine AO.callP rfl gnone rfl hH10 sR (c_relate_Up _ _  _ (hT.hp hH10)) (run_call2 call113 rfl rfl) ?_
 intro w11 hH12
 refine A1 5 ?_
 refine AO.callP rfl gnone rfl hH12 sR (c_relate_Down _ _  _) (run_call2 call114 rfl rfl) ?_
 intro w13 hH14
 refine AT 6 rfl (hH14.sub sR) (fun w hS => run_andU rfl rfl) ?_
 refine AT 7 rfl (hH14.sub sR) (fun w hS => aV (U _) rfl) ?_
 refine AD ?_
 refine CW.ret ?_
 refine outP1 Tryd.results105 (congrArg U ?_) hH14.below
 rfl

theorem c_relate_Order (r : Rl) (w : World) (hT : Tab w) : Calls Tryd.prog 87 #[.agg (relC r)] w (Pure (B (orderB r)) w) := by
 have hp := pts_bd r
 refine enter Tryd.func87 rfl Tryd.ntmps87 rfl ?_
 have hH := Hp.start w
 refine SR ?_
 refine RL.new rfl hH (f := fun b => (.pointer (some ⟨b, 0, none⟩))) (run_box (v := .agg _) rfl) ?_
 intro b3 w1 hH2
 refine V (aV (B false) rfl) ?_
 refine RL.nil ?_
 refine CW.seq ?_
 refine SR ?_
 refine V (run_ldRel underlying73 rfl rfl rfl (hH2.blk (i := 0) rfl)) ?_
 refine RL.callP rfl hH2 (c_relate_Closed _  _) (run_call1 call98 rfl) ?_
 intro w4 hH5
 refine V (run_notP rfl) ?_
 refine RL.nil ?_
 refine CW.condP rfl (fun h9 => ?_) (fun h9 => ?_)
 ·refine SR ?_
  refine V (aV (B false) rfl) ?_
  refine RL.nil ?_
  refine CW.ret ?_
  refine outP1 Tryd.results87 (congrArg B ?_) hH5.below
  exact (order_no0 ‹_›).symm
 ·refine CW.skip ?_
  refine CW.seq ?_
  refine SR ?_
  refine V (run_ldRel underlying73 rfl rfl rfl (hH5.blk (i := 0) rfl)) ?_
  refine RL.callP rfl hH5 (c_relate_points _  _) (run_call1 call104 rfl) ?_
  intro w10 hH11
  refine V (mV (I 0) rfl) ?_
  refine RL.nil ?_
  refine CW.block ?_
  have hc := Decidable.of_not_not ‹¬ ¬ (plainR r).eq (cloR r)›
  refine CW.loop (G := (Int)) (fun (k : Int) s' w' => (Fr [2, 3, 9, 10, 11, 12, 13, 14, 15, 16, 17, 18, 19] _ s') ∧ (Hp w w' _) ∧ (s' 9 = I k) ∧ (0 ≤ k) ∧ (k ≤ pts r) ∧ (∀ j : Int, 0 ≤ j → j < k → mutualR r j = ofl [j])) (fun (k : Int) => (pts r - k).toNat) (0) ⟨Fr.refl _ _, hH11, rfl, (by omega), (by omega), fun j a b => absurd b (by omega)⟩ ?_
  rintro k sg12 w12 ⟨fr12, hH12, e9_12, h0, hk, hf⟩
  have e1_12 : sg12 1 = Pn _ _ := (fr12 1 rfl).trans rfl
  have e8_12 : sg12 8 = I _ := (fr12 8 rfl).trans rfl
  refine SR ?_
  refine V (run_lss e9_12 e8_12) ?_
  refine RL.nil ?_
  refine CW.seq ?_
  refine CW.condP rfl (fun h14 => ?_) (fun h14 => ?_)
  ·refine CW.skip ?_
   refine CW.seq ?_
   refine CW.block ?_
   refine SR ?_
   refine V (run_move e9_12) ?_
   refine V (aV (I _) rfl) ?_
   refine RL.nil ?_
   refine SR ?_
   refine V (run_ldRel underlying73 rfl rfl e1_12 (hH12.blk (i := 0) rfl)) ?_
   refine V (mV (I _) rfl) ?_
   refine RL.callP rfl hH12 (c_relate_mutual _ _  _ (hT.hp hH12)) (run_call2 call105 rfl rfl) ?_
   intro w15 hH16
   refine V (mV (I _) rfl) ?_
   refine RL.new rfl hH16 (f := fun b => (.slice (some ⟨b, 0, none⟩) 1 1)) (run_mkL underlying118 rfl rfl (sz := 1) (vs := [I _]) rfl rfl (by decide) (by decide) rfl rfl) ?_
   intro b19 w17 hH18
   (try simp only [List.flatMap_cons, List.flatMap_nil, clI, clB, clS, clP, clL, clA, List.append_nil, List.cons_append, List.nil_append] at hH18)
   refine RL.callP rfl hH18 (c_mask_Of _ [k] _ (hH18.slBlk (i := 0) (n := 1) (sz := 1) rfl rfl (by decide))) (run_call1 call106 rfl) ?_
   intro w20 hH21
   refine V (run_neqU rfl rfl) ?_
   refine RL.nil ?_
   refine CW.condP rfl (fun h23 => ?_) (fun h23 => ?_)
   ·refine SR ?_
    refine V (aV (B false) rfl) ?_
    refine RL.nil ?_
    refine CW.ret ?_
    refine outP1 Tryd.results87 (congrArg B ?_) hH21.below
    exact (order_no hc ⟨h0, by omega⟩ ‹_›).symm
   ·refine CW.skip ?_
    refine CW.region ?_
    refine V (run_add e9_12 rfl (by omega)) ?_
    refine V (mV (I _) rfl) ?_
    refine RL.nil ?_
    refine ⟨k + 1, ?_, fr12.u4.u4.u4, (hH21.sub (sQ sR)), (congrArg I (by first | rfl | omega)), ?_, ?_, ?_⟩
    ·((try dsimp only); omega)
    ·omega
    ·omega
    ·exact fun j a b => if e : j = k then e ▸ Decidable.of_not_not ‹_› else hf j a (by omega)
  ·refine CW.exit (id := 0) rfl ?_
   refine SR ?_
   refine V (aV (B true) rfl) ?_
   refine RL.nil ?_
   refine CW.ret ?_
   refine outP1 Tryd.results87 (congrArg B ?_) hH12.below
   exact (order_yes hc fun j a b => hf j a (by omega)).symm

theorem c_hasse_in (r : Rl) (i : Int) (w : World) : Calls Tryd.prog 117 #[.agg (relC r), I i] w (Pure (B (isP r i)) w) := by
 have hp := pts_bd r
 have hnn : (newR r.n).n = pts r := rfl
 refine enter Tryd.func117 rfl Tryd.ntmps117 rfl ?_
 have hH := Hp.start w
 refine SR ?_
 refine RL.new rfl hH (f := fun b => (.pointer (some ⟨b, 0, none⟩))) (run_box (v := .agg _) rfl) ?_
 intro b3 w1 hH2
 refine V (aV (B false) rfl) ?_
 refine RL.nil ?_
 refine SR ?_
 refine V (mV (I _) rfl) ?_
 refine V (run_geq rfl rfl) ?_
 refine V (mV (B _) rfl) ?_
 refine RL.splitP (dj := 7) rfl (fun h5 => ?_) (fun h5 => ?_)
 ·refine RL.gT rfl (bT h5) ?_
  refine V (mV (I _) rfl) ?_
  refine RL.gT rfl (bT h5) ?_
  refine V (fA underlying73 0 rfl sizeOf3 rfl) ?_
  refine RL.gT rfl (bT h5) ?_
  refine V (run_ld underlying3 rfl rfl (hH2.cell (i := 0) rfl (relC_N _))) ?_
  refine RL.gT rfl (bT h5) ?_
  refine RL.callP rfl hH2 (c_relate_New _  _) (run_call1 call102 rfl) ?_
  intro w6 hH7
  refine RL.gT rfl (bT h5) ?_
  refine V (run_field underlying73 rfl isAgg3 rfl (relC_N _)) ?_
  refine RL.gT rfl (bT h5) ?_
  refine V (run_lss rfl rfl) ?_
  refine V (run_pickT (bT h5) (v := B _) rfl) ?_
  refine V (aV (B _) rfl) ?_
  refine RL.nil ?_
  refine CW.ret ?_
  refine outP1 Tryd.results117 (congrArg B ?_) hH7.below
  (rw [isP, Bool.eq_iff_iff]; simp only [decide_eq_true_eq, Bool.false_eq_true, false_iff]; omega)
 ·refine RL.gF rfl rfl (bF h5) rfl ?_
  refine RL.gF rfl rfl (bF h5) rfl ?_
  refine RL.gF rfl rfl (bF h5) rfl ?_
  refine RL.gF rfl rfl (bF h5) rfl ?_
  refine RL.gF rfl rfl (bF h5) rfl ?_
  refine RL.gF rfl rfl (bF h5) rfl ?_
  refine V (run_pickF (bF h5) (v := B false) rfl) ?_
  refine V (aV (B _) rfl) ?_
  refine RL.nil ?_
  refine CW.ret ?_
  refine outP1 Tryd.results117 (congrArg B ?_) hH2.below
  (rw [isP, Bool.eq_iff_iff]; simp only [decide_eq_true_eq, Bool.false_eq_true, false_iff]; omega)

theorem c_hasse_above (r : Rl) (i : Int) (w : World) (hT : Tab w) : Calls Tryd.prog 108 #[.agg (relC r), I i] w (Pure (U (aboveR r i)) w) := by
 refine enter Tryd.func108 rfl Tryd.ntmps108 rfl ?_
 have hH := Hp.start w
 refine SR ?_
 refine RL.new rfl hH (f := fun b => (.pointer (some ⟨b, 0, none⟩))) (run_box (v := .agg _) rfl) ?_
 intro b3 w1 hH2
 refine V (aV (U 0#64) rfl) ?_
 refine RL.nil ?_
 refine CW.seq ?_
 refine CW.regionD (by kernel_rfl) hH2 ?_
 intro w4 hH5
 refine AT 0 rfl (hH5.sub sR) (fun w hS => run_ldRel underlying73 rfl rfl rfl (hS.blk (i := 0) rfl)) ?_
 refine AT 1 rfl (hH5.sub sR) (fun w hS => mV (I _) rfl) ?_
 refine A1 2 ?_
 refine AO.new rfl gnone rfl hH5 sR (f := fun b => .slice (some ⟨b, 0, none⟩) 1 1) (run_mkL underlying118 rfl rfl (sz := 1) (vs := [I _]) rfl rfl (by decide) (by decide) rfl rfl) ?_
 intro b8 w6 hH7
 (try simp only [List.flatMap_cons, List.flatMap_nil, clI, clB, clS, clP, clL, clA, List.append_nil, List.cons_append, List.nil_append] at hH7)
 refine A1 3 ?_
 refine AO.callP rfl gnone rfl hH7 (sQ sR) (c_mask_Of _ [i] _ (hH7.slBlk (i := 0) (n := 1) (sz := 1) rfl rfl (by decide))) (run_call1 call106 rfl) ?_
 intro w9 hH10
 refine A1 4 ?_
 refine AO.callP rfl gnone rfl hH10 (sQ sR) (c_relate_Up _ _  _ (hT.hp hH10)) (run_call2 call113 rfl rfl) ?_
 intro w11 hH12
 refine AT 5 rfl (hH12.sub (sQ sR)) (fun w hS => aV (U _) rfl) ?_
 refine AD ?_
 refine CW.ret ?_
 refine outP1 Tryd.results108 (congrArg U ?_) hH12.below
 rfl

theorem c_hasse_below (r : Rl) (i : Int) (w : World) (hT : Tab w) : Calls Tryd.prog 109 #[.agg (relC r), I i] w (Pure (U (belowR r i)) w) := by
 refine enter Tryd.func109 rfl Tryd.ntmps109 rfl ?_
 have hH := Hp.start w
 refine SR ?_
 refine RL.new rfl hH (f := fun b => (.pointer (some ⟨b, 0, none⟩))) (run_box (v := .agg _) rfl) ?_
 intro b3 w1 hH2
 refine V (aV (U 0#64) rfl) ?_
 refine RL.nil ?_
 refine CW.seq ?_
 refine SR ?_
 refine V (run_ldRel underlying73 rfl rfl rfl (hH2.blk (i := 0) rfl)) ?_
 refine V (mV (I _) rfl) ?_
 refine RL.callP rfl hH2 (c_hasse_in _ _  _) (run_call2 call117 rfl rfl) ?_
 intro w4 hH5
 refine V (run_not rfl) ?_
 refine RL.nil ?_
 refine CW.cond rfl (fun h8 => ?_) (fun h8 => ?_)
 ·refine SR ?_
  refine V (aV (U 0#64) rfl) ?_
  refine RL.nil ?_
  refine CW.ret ?_
  refine outP1 Tryd.results109 (congrArg U ?_) hH5.below
  first | rw [belowR, if_neg (by simpa using ‹(!isP r i) = true›)] | rw [belowR, if_pos (by simpa using ‹(!isP r i) = false›)]
 ·refine CW.skip ?_
  refine CW.seq ?_
  refine CW.regionD (by kernel_rfl) hH5 ?_
  intro w9 hH10
  refine AT 0 rfl (hH10.sub sR) (fun w hS => run_ldRel underlying73 rfl rfl rfl (hS.blk (i := 0) rfl)) ?_
  refine AT 1 rfl (hH10.sub sR) (fun w hS => mV (I _) rfl) ?_
  refine A1 2 ?_
  refine AO.new rfl gnone rfl hH10 sR (f := fun b => .slice (some ⟨b, 0, none⟩) 1 1) (run_mkL underlying118 rfl rfl (sz := 1) (vs := [I _]) rfl rfl (by decide) (by decide) rfl rfl) ?_
  intro b13 w11 hH12
  (try simp only [List.flatMap_cons, List.flatMap_nil, clI, clB, clS, clP, clL, clA, List.append_nil, List.cons_append, List.nil_append] at hH12)
  refine A1 3 ?_
  refine AO.callP rfl gnone rfl hH12 (sQ sR) (c_mask_Of _ [i] _ (hH12.slBlk (i := 0) (n := 1) (sz := 1) rfl rfl (by decide))) (run_call1 call106 rfl) ?_
  intro w14 hH15
  refine A1 4 ?_
  refine AO.callP rfl gnone rfl hH15 (sQ sR) (c_relate_Down _ _  _) (run_call2 call114 rfl rfl) ?_
  intro w16 hH17
  refine AT 5 rfl (hH17.sub (sQ sR)) (fun w hS => aV (U _) rfl) ?_
  refine AD ?_
  refine CW.ret ?_
  refine outP1 Tryd.results109 (congrArg U ?_) hH17.below
  first | rw [belowR, if_neg (by simpa using ‹(!isP r i) = true›)] | rw [belowR, if_pos (by simpa using ‹(!isP r i) = false›)]

theorem c_hasse_nearest (r : Rl) (i j : Int) (f : FuncId) (gg : Int → BitVec 64) (w : World) (hf : ∀ args w, (callFunc f args).run Tryd.prog w = .ok (.enter f args) w) (go : ∀ i w, Tab w → Calls Tryd.prog f #[.agg (relC r), I i] w (Pure (U (gg i)) w)) (hn : ∀ u, hasB (gg i &&& gg j) u = true → u < pts r) (hT : Tab w) : Calls Tryd.prog 107 #[.agg (relC r), I i, I j, .func (.func f) #[] #[]] w (Pure (.tuple #[I (nearV gg (pts r) i j).1, B (nearV gg (pts r) i j).2]) w) := by
 have hl := lst_len (gg i &&& gg j)
 refine enter Tryd.func107 rfl Tryd.ntmps107 rfl ?_
 have hH := Hp.start w
 refine SR ?_
 refine RL.new rfl hH (f := fun b => (.pointer (some ⟨b, 0, none⟩))) (run_box (v := .agg _) rfl) ?_
 intro b3 w1 hH2
 refine V (aV (I 0) rfl) ?_
 refine V (aV (B false) rfl) ?_
 refine RL.nil ?_
 refine CW.seq ?_
 refine CW.regionD (by kernel_rfl) hH2 ?_
 intro w4 hH5
 refine AT 0 rfl (hH5.sub sR) (fun w hS => mV (.func _ _ _) rfl) ?_
 refine AT 1 rfl (hH5.sub sR) (fun w hS => run_ldRel underlying73 rfl rfl rfl (hS.blk (i := 0) rfl)) ?_
 refine AT 2 rfl (hH5.sub sR) (fun w hS => mV (I _) rfl) ?_
 refine AT 4 rfl (hH5.sub sR) (fun w hS => mV (.func _ _ _) rfl) ?_
 refine AT 5 rfl (hH5.sub sR) (fun w hS => run_ldRel underlying73 rfl rfl rfl (hS.blk (i := 0) rfl)) ?_
 refine AT 6 rfl (hH5.sub sR) (fun w hS => mV (I _) rfl) ?_
 refine A1 3 ?_
 refine AO.callP rfl gnone rfl hH5 sR (go _ _ (hT.hp hH5)) (run_callC2 hf (cs := []) rfl rfl rfl) ?_
 intro w6 hH7
 refine A1 7 ?_
 refine AO.callP rfl gnone rfl hH7 sR (go _ _ (hT.hp hH7)) (run_callC2 hf (cs := []) rfl rfl rfl) ?_
 intro w8 hH9
 refine AT 8 rfl (hH9.sub sR) (fun w hS => run_andU rfl rfl) ?_
 refine AT 9 rfl (hH9.sub sR) (fun w hS => aV (U _) rfl) ?_
 refine AD ?_
 refine CW.seq ?_
 refine SR ?_
 refine V (mV (U _) rfl) ?_
 refine RL.callR rfl hH9 (c_mask_List _  _ (hT.hp hH9)) (run_call1 call115 rfl) ?_
 intro v12 w10 hH11
 refine V (run_lenSl (hH11.sl (i := 0) rfl) rfl underlying118 rfl) ?_
 refine V (mV (I 0) rfl) ?_
 refine RL.nil ?_
 refine CW.block ?_
 refine CW.loop (G := (Int)) (fun (a : Int) s' w' => (Fr [8, 9, 12, 25, 26, 27, 28, 29, 30, 31, 32, 33, 34, 35, 36] _ s') ∧ (Hp w w' _) ∧ (s' 25 = I a) ∧ (0 ≤ a) ∧ (a ≤ (lst (gg i &&& gg j)).length) ∧ (∀ b : Int, 0 ≤ b → b < a → subB (gg i &&& gg j) (gg ((lst (gg i &&& gg j)).getD b.toNat 0)) = false)) (fun (a : Int) => ((lst (gg i &&& gg j)).length - a).toNat) (0) ⟨Fr.refl _ _, hH11, rfl, (by omega), (by omega), fun b x y => absurd y (by omega)⟩ ?_
 rintro a sg13 w13 ⟨fr13, hH13, e25_13, a0, a1, hg⟩
 have e3_13 : sg13 3 = .func _ _ _ := (fr13 3 rfl).trans rfl
 have e4_13 : sg13 4 = Pn _ _ := (fr13 4 rfl).trans rfl
 have e10_13 : sg13 10 = U _ := (fr13 10 rfl).trans rfl
 have e23_13 := (fr13 23 rfl).trans (by conv => lhs; whnf)
 have e24_13 : sg13 24 = I _ := (fr13 24 rfl).trans rfl
 refine SR ?_
 refine V (run_lss e25_13 e24_13) ?_
 refine RL.nil ?_
 refine CW.seq ?_
 refine CW.condP rfl (fun h15 => ?_) (fun h15 => ?_)
 ·refine CW.skip ?_
  refine CW.seq ?_
  refine CW.block ?_
  refine SR ?_
  refine V (run_indexAddrS (hH13.sl (i := 0) rfl) underlying118 sizeOf3 e23_13 e25_13 (by omega)) ?_
  refine V (run_ld underlying3 rfl rfl ((hH13.sl (i := 0) rfl).cell _ _ (map_at (by omega)))) ?_
  refine V (aV (I _) rfl) ?_
  refine RL.nil ?_
  refine SR ?_
  refine V (run_move e10_13) ?_
  refine V (run_move e3_13) ?_
  refine V (run_ldRel underlying73 rfl rfl e4_13 (hH13.blk (i := 1) rfl)) ?_
  refine V (mV (I _) rfl) ?_
  refine RL.callP rfl hH13 (go _ _ (hT.hp hH13)) (run_callC2 hf (cs := []) rfl rfl rfl) ?_
  intro w16 hH17
  refine RL.callP rfl hH17 (c_mask_Sub _ _  _) (run_call2 call116 rfl rfl) ?_
  intro w18 hH19
  refine RL.nil ?_
  refine CW.cond rfl (fun h21 => ?_) (fun h21 => ?_)
  ·refine SR ?_
   refine V (mV (I _) rfl) ?_
   refine V (aV (I _) rfl) ?_
   refine V (aV (B true) rfl) ?_
   refine RL.nil ?_
   refine CW.ret ?_
   refine outP2 Tryd.results107 (congrArg I ?_) (congrArg B ?_) hH19.below <;> rw [near_yes hn a0 ‹_› ‹_› hg]
  ·refine CW.skip ?_
   refine CW.region ?_
   refine V (run_add e25_13 rfl (by omega)) ?_
   refine V (mV (I _) rfl) ?_
   refine RL.nil ?_
   refine ⟨a + 1, ?_, fr13.u4.u4.u4, hH19, (congrArg I (by first | rfl | omega)), ?_, ?_, ?_⟩
   ·((try dsimp only); omega)
   ·omega
   ·omega
   ·exact fun b x y => if e : b = a then e ▸ ‹_› else hg b x (by omega)
 ·refine CW.exit (id := 0) rfl ?_
  refine SR ?_
  refine V (aV (I 0) rfl) ?_
  refine V (aV (B false) rfl) ?_
  refine RL.nil ?_
  refine CW.ret ?_
  refine outP2 Tryd.results107 (congrArg I ?_) (congrArg B ?_) hH13.below <;> rw [near_no ‹_› hg]

theorem c_hasse_Join (r : Rl) (i j : Int) (w : World) (hT : Tab w) : Calls Tryd.prog 88 #[.agg (relC r), I i, I j] w (Pure (.tuple #[I (joinV r i j).1, B (joinV r i j).2]) w) := by
 refine enter Tryd.func88 rfl Tryd.ntmps88 rfl ?_
 have hH := Hp.start w
 refine SR ?_
 refine RL.new rfl hH (f := fun b => (.pointer (some ⟨b, 0, none⟩))) (run_box (v := .agg _) rfl) ?_
 intro b3 w1 hH2
 refine V (aV (I 0) rfl) ?_
 refine V (aV (B false) rfl) ?_
 refine RL.nil ?_
 refine SR ?_
 refine V (run_ldRel underlying73 rfl rfl rfl (hH2.blk (i := 0) rfl)) ?_
 refine V (mV (I _) rfl) ?_
 refine V (mV (I _) rfl) ?_
 refine RL.callP rfl hH2 (c_hasse_nearest r i j 108 (aboveR r) _ call108 (fun i w h => c_hasse_above r i w h) (fun u h => above_in h) (hT.hp hH2)) (run_call4 call107 rfl rfl rfl rfl) ?_
 intro w4 hH5
 refine V (run_extract rfl (v := I _) rfl) ?_
 refine V (run_extract rfl (v := B _) rfl) ?_
 refine V (aV (I _) rfl) ?_
 refine V (aV (B _) rfl) ?_
 refine RL.nil ?_
 refine CW.ret ?_
 refine outP2 Tryd.results88 (congrArg I ?_) (congrArg B ?_) hH5.below
 all_goals rfl

theorem c_hasse_Meet (r : Rl) (i j : Int) (w : World) (hT : Tab w) : Calls Tryd.prog 89 #[.agg (relC r), I i, I j] w (Pure (.tuple #[I (meetV r i j).1, B (meetV r i j).2]) w) := by
 refine enter Tryd.func89 rfl Tryd.ntmps89 rfl ?_
 have hH := Hp.start w
 refine SR ?_
 refine RL.new rfl hH (f := fun b => (.pointer (some ⟨b, 0, none⟩))) (run_box (v := .agg _) rfl) ?_
 intro b3 w1 hH2
 refine V (aV (I 0) rfl) ?_
 refine V (aV (B false) rfl) ?_
 refine RL.nil ?_
 refine SR ?_
 refine V (run_ldRel underlying73 rfl rfl rfl (hH2.blk (i := 0) rfl)) ?_
 refine V (mV (I _) rfl) ?_
 refine V (mV (I _) rfl) ?_
 refine RL.callP rfl hH2 (c_hasse_nearest r i j 109 (belowR r) _ call109 (fun i w h => c_hasse_below r i w h) (fun u h => below_inR h) (hT.hp hH2)) (run_call4 call107 rfl rfl rfl rfl) ?_
 intro w4 hH5
 refine V (run_extract rfl (v := I _) rfl) ?_
 refine V (run_extract rfl (v := B _) rfl) ?_
 refine V (aV (I _) rfl) ?_
 refine V (aV (B _) rfl) ?_
 refine RL.nil ?_
 refine CW.ret ?_
 refine outP2 Tryd.results89 (congrArg I ?_) (congrArg B ?_) hH5.below
 all_goals rfl

theorem c_hasse_Lattice (r : Rl) (w : World) (hT : Tab w) : Calls Tryd.prog 59 #[.agg (relC r)] w (Pure (B (latB r)) w) := by
 have hp := pts_bd r
 refine enter Tryd.func59 rfl Tryd.ntmps59 rfl ?_
 have hH := Hp.start w
 refine SR ?_
 refine RL.new rfl hH (f := fun b => (.pointer (some ⟨b, 0, none⟩))) (run_box (v := .agg _) rfl) ?_
 intro b3 w1 hH2
 refine V (aV (B false) rfl) ?_
 refine RL.nil ?_
 refine CW.seq ?_
 refine SR ?_
 refine V (fA underlying73 0 rfl sizeOf3 rfl) ?_
 refine V (run_ld underlying3 rfl rfl (hH2.cell (i := 0) rfl (relC_N _))) ?_
 refine V (run_lss rfl rfl) ?_
 refine V (mV (B _) rfl) ?_
 refine RL.splitP (dj := 12) rfl (fun h5 => ?_) (fun h5 => ?_)
 ·refine RL.gF rfl rfl (bT h5) rfl ?_
  refine RL.gF rfl rfl (bT h5) rfl ?_
  refine RL.gF rfl rfl (bT h5) rfl ?_
  refine V (run_pickT (bT h5) (v := B true) rfl) ?_
  refine V (mV (B _) rfl) ?_
  refine RL.gF rfl rfl rfl rfl ?_
  refine RL.gF rfl rfl rfl rfl ?_
  refine RL.gF rfl rfl rfl rfl ?_
  refine V (run_pickT rfl (v := B true) rfl) ?_
  refine RL.nil ?_
  refine CW.condT rfl ?_
  refine SR ?_
  refine V (aV (B false) rfl) ?_
  refine RL.nil ?_
  refine CW.ret ?_
  refine outP1 Tryd.results59 (congrArg B ?_) hH2.below
  first | exact (lat_no1 (by omega)).symm | exact (lat_no2 (nt ‹_›)).symm | exact (lat_no3 ‹i < r.n› j0 ‹j < i› (by rw [bothB, nt ‹(!(joinV r i j).2) = true›]; rfl)).symm | exact (lat_no3 ‹i < r.n› j0 ‹j < i› (by rw [bothB, nt ‹(!(meetV r i j).2) = true›]; simp)).symm | exact (lat_yes hn ho ‹_› hg).symm
 ·refine RL.gT rfl (bF h5) ?_
  refine V (fA underlying73 0 rfl sizeOf3 rfl) ?_
  refine RL.gT rfl (bF h5) ?_
  refine V (run_ld underlying3 rfl rfl (hH2.cell (i := 0) rfl (relC_N _))) ?_
  refine RL.gT rfl (bF h5) ?_
  refine V (run_gtr rfl rfl) ?_
  refine V (run_pickF (bF h5) (v := B _) rfl) ?_
  refine V (mV (B _) rfl) ?_
  refine RL.splitP (dj := 17) rfl (fun h7 => ?_) (fun h7 => ?_)
  ·refine RL.gF rfl rfl (bT h7) rfl ?_
   refine RL.gF rfl rfl (bT h7) rfl ?_
   refine RL.gF rfl rfl (bT h7) rfl ?_
   refine V (run_pickT (bT h7) (v := B true) rfl) ?_
   refine RL.nil ?_
   refine CW.condT rfl ?_
   refine SR ?_
   refine V (aV (B false) rfl) ?_
   refine RL.nil ?_
   refine CW.ret ?_
   refine outP1 Tryd.results59 (congrArg B ?_) hH2.below
   first | exact (lat_no1 (by omega)).symm | exact (lat_no2 (nt ‹_›)).symm | exact (lat_no3 ‹i < r.n› j0 ‹j < i› (by rw [bothB, nt ‹(!(joinV r i j).2) = true›]; rfl)).symm | exact (lat_no3 ‹i < r.n› j0 ‹j < i› (by rw [bothB, nt ‹(!(meetV r i j).2) = true›]; simp)).symm | exact (lat_yes hn ho ‹_› hg).symm
  ·refine RL.gT rfl (bF h7) ?_
   refine V (run_ldRel underlying73 rfl rfl rfl (hH2.blk (i := 0) rfl)) ?_
   refine RL.gT rfl (bF h7) ?_
   refine RL.callP rfl hH2 (c_relate_Order _  _ (hT.hp hH2)) (run_call1 call87 rfl) ?_
   intro w8 hH9
   refine RL.gT rfl (bF h7) ?_
   refine V (run_not rfl) ?_
   refine V (run_pickF (bF h7) (v := B _) rfl) ?_
   refine RL.nil ?_
   refine CW.cond rfl (fun h12 => ?_) (fun h12 => ?_)
   ·refine SR ?_
    refine V (aV (B false) rfl) ?_
    refine RL.nil ?_
    refine CW.ret ?_
    refine outP1 Tryd.results59 (congrArg B ?_) hH9.below
    first | exact (lat_no1 (by omega)).symm | exact (lat_no2 (nt ‹_›)).symm | exact (lat_no3 ‹i < r.n› j0 ‹j < i› (by rw [bothB, nt ‹(!(joinV r i j).2) = true›]; rfl)).symm | exact (lat_no3 ‹i < r.n› j0 ‹j < i› (by rw [bothB, nt ‹(!(meetV r i j).2) = true›]; simp)).symm | exact (lat_yes hn ho ‹_› hg).symm
   ·refine CW.skip ?_
    refine CW.seq ?_
    refine SR ?_
    refine V (fA underlying73 0 rfl sizeOf3 rfl) ?_
    refine V (run_ld underlying3 rfl rfl (hH9.cell (i := 0) rfl (relC_N _))) ?_
    refine V (mV (I 0) rfl) ?_
    refine RL.nil ?_
    refine CW.block ?_
    have hn : 1 ≤ r.n ∧ r.n ≤ 64 := by omega
    have ho : orderB r = true := nf ‹_›
    refine CW.loop (G := (Int)) (fun (i : Int) s' w' => (Fr [2, 3, 4, 5, 6, 7, 8, 24, 25, 26, 27, 28, 29, 30, 31, 32, 33, 34, 35, 36, 37, 38, 39, 40, 41, 42, 43, 44, 45, 46, 47, 48, 49, 50, 51, 52] _ s') ∧ (Hp w w' _) ∧ (s' 24 = I i) ∧ (0 ≤ i) ∧ (i ≤ r.n) ∧ (∀ a b : Int, 0 ≤ b → b < a → a < i → bothB r a b = true)) (fun (i : Int) => (r.n - i).toNat) (0) ⟨Fr.refl _ _, hH9, rfl, (by omega), (by omega), fun a b x y z => absurd z (by omega)⟩ ?_
    rintro i sg13 w13 ⟨fr13, hH13, e24_13, i0, i1, hg⟩
    have e1_13 : sg13 1 = Pn _ _ := (fr13 1 rfl).trans rfl
    have e23_13 : sg13 23 = I _ := (fr13 23 rfl).trans rfl
    refine SR ?_
    refine V (run_lss e24_13 e23_13) ?_
    refine RL.nil ?_
    refine CW.seq ?_
    refine CW.condP rfl (fun h15 => ?_) (fun h15 => ?_)
    ·refine CW.skip ?_
     refine CW.seq ?_
     refine CW.block ?_
     refine SR ?_
     refine V (run_move e24_13) ?_
     refine V (aV (I _) rfl) ?_
     refine RL.nil ?_
     refine SR ?_
     refine V (mV (I _) rfl) ?_
     refine V (mV (I 0) rfl) ?_
     refine RL.nil ?_
     refine CW.block ?_
     refine CW.loop (G := (Int)) (fun (j : Int) s' w' => (Fr [2, 4, 5, 6, 7, 8, 28, 29, 30, 31, 32, 33, 34, 35, 36, 37, 38, 39, 40, 41, 42, 43, 44, 45, 46, 47, 48, 49, 50, 51] _ s') ∧ (Hp w w' _) ∧ (s' 28 = I j) ∧ (0 ≤ j) ∧ (j ≤ i) ∧ (∀ b : Int, 0 ≤ b → b < j → bothB r i b = true)) (fun (j : Int) => (i - j).toNat) (0) ⟨Fr.refl _ _, hH13, rfl, (by omega), (by omega), fun b x y => absurd y (by omega)⟩ ?_
     rintro j sg16 w16 ⟨fr16, hH16, e28_16, j0, j1, hh⟩
     have e1_16 := (fr16 1 rfl).trans e1_13
     have e3_16 : sg16 3 = I _ := (fr16 3 rfl).trans rfl
     have e23_16 := (fr16 23 rfl).trans e23_13
     have e24_16 := (fr16 24 rfl).trans e24_13
     have e25_16 : sg16 25 = B _ := (fr16 25 rfl).trans rfl
     have e26_16 : sg16 26 = I _ := (fr16 26 rfl).trans rfl
     have e27_16 : sg16 27 = I _ := (fr16 27 rfl).trans rfl
     refine SR ?_
     refine V (run_lss e28_16 e27_16) ?_
     refine RL.nil ?_
     refine CW.seq ?_
     refine CW.condP rfl (fun h18 => ?_) (fun h18 => ?_)
     ·refine CW.skip ?_
      refine CW.seq ?_
      refine CW.block ?_
      refine SR ?_
      refine V (run_move e28_16) ?_
      refine V (aV (I _) rfl) ?_
      refine RL.nil ?_
      refine SR ?_
      refine V (run_ldRel underlying73 rfl rfl e1_16 (hH16.blk (i := 0) rfl)) ?_
      refine V (run_move e3_16) ?_
      refine V (mV (I _) rfl) ?_
      refine RL.callP rfl hH16 (c_hasse_Join _ _ _  _ (hT.hp hH16)) (run_call3 call88 rfl rfl rfl) ?_
      intro w19 hH20
      refine V (run_move (by conv => lhs; whnf)) ?_
      refine V (run_extract rfl (v := I _) rfl) ?_
      refine V (run_extract rfl (v := B _) rfl) ?_
      refine V (aV (I _) rfl) ?_
      refine V (aV (B _) rfl) ?_
      refine RL.nil ?_
      refine SR ?_
      refine V (run_ldRel underlying73 rfl rfl e1_16 (hH20.blk (i := 0) rfl)) ?_
      refine V (run_move e3_16) ?_
      refine V (mV (I _) rfl) ?_
      refine RL.callP rfl hH20 (c_hasse_Meet _ _ _  _ (hT.hp hH20)) (run_call3 call89 rfl rfl rfl) ?_
      intro w22 hH23
      refine V (run_move (by conv => lhs; whnf)) ?_
      refine V (run_extract rfl (v := I _) rfl) ?_
      refine V (run_extract rfl (v := B _) rfl) ?_
      refine V (aV (I _) rfl) ?_
      refine V (aV (B _) rfl) ?_
      refine RL.nil ?_
      refine SR ?_
      refine V (mV (B _) rfl) ?_
      refine V (run_not rfl) ?_
      refine V (mV (B _) rfl) ?_
      refine RL.split (dj := 47) rfl (fun h26 => ?_) (fun h26 => ?_)
      ·refine RL.gF rfl rfl (bR (c := true) h26) rfl ?_
       refine RL.gF rfl rfl (bR (c := true) h26) rfl ?_
       refine V (run_pickT (bR (c := true) h26) (v := B true) rfl) ?_
       refine RL.nil ?_
       refine CW.condT rfl ?_
       refine SR ?_
       refine V (aV (B false) rfl) ?_
       refine RL.nil ?_
       refine CW.ret ?_
       refine outP1 Tryd.results59 (congrArg B ?_) hH23.below
       first | exact (lat_no1 (by omega)).symm | exact (lat_no2 (nt ‹_›)).symm | exact (lat_no3 ‹i < r.n› j0 ‹j < i› (by rw [bothB, nt ‹(!(joinV r i j).2) = true›]; rfl)).symm | exact (lat_no3 ‹i < r.n› j0 ‹j < i› (by rw [bothB, nt ‹(!(meetV r i j).2) = true›]; simp)).symm | exact (lat_yes hn ho ‹_› hg).symm
      ·refine RL.gT rfl (bR (c := false) h26) ?_
       refine V (mV (B _) rfl) ?_
       refine RL.gT rfl (bR (c := false) h26) ?_
       refine V (run_not rfl) ?_
       refine V (run_pickF (bR (c := false) h26) (v := B _) rfl) ?_
       refine RL.nil ?_
       refine CW.cond rfl (fun h28 => ?_) (fun h28 => ?_)
       ·refine SR ?_
        refine V (aV (B false) rfl) ?_
        refine RL.nil ?_
        refine CW.ret ?_
        refine outP1 Tryd.results59 (congrArg B ?_) hH23.below
        first | exact (lat_no1 (by omega)).symm | exact (lat_no2 (nt ‹_›)).symm | exact (lat_no3 ‹i < r.n› j0 ‹j < i› (by rw [bothB, nt ‹(!(joinV r i j).2) = true›]; rfl)).symm | exact (lat_no3 ‹i < r.n› j0 ‹j < i› (by rw [bothB, nt ‹(!(meetV r i j).2) = true›]; simp)).symm | exact (lat_yes hn ho ‹_› hg).symm
       ·refine CW.skip ?_
        refine CW.region ?_
        refine V (run_add e28_16 rfl (by omega)) ?_
        refine V (mV (I _) rfl) ?_
        refine RL.nil ?_
        refine ⟨j + 1, ?_, fr16.u4.u4.u4.u4.u4.u4.u4.u1, hH23, (congrArg I (by first | rfl | omega)), ?_, ?_, ?_⟩
        ·((try dsimp only); omega)
        ·omega
        ·omega
        ·exact fun b x y => if e : b = j then e ▸ (by rw [bothB, Bool.and_eq_true]; exact ⟨nf ‹(!(joinV r i j).2) = false›, nf ‹(!(meetV r i j).2) = false›⟩) else hh b x (by omega)
     ·refine CW.exit (id := 2) rfl ?_
      refine CW.region ?_
      refine V (run_add e24_16 rfl (by omega)) ?_
      refine V (mV (I _) rfl) ?_
      refine RL.nil ?_
      refine ⟨i + 1, ?_, (((fr13.u4.u1).t fr16 rfl)).u1.u1.u1, hH16, (congrArg I (by first | rfl | omega)), ?_, ?_, ?_⟩
      ·((try dsimp only); omega)
      ·omega
      ·omega
      ·exact fun a b x y z => if e : a = i then e ▸ hh b x (by omega) else hg a b x y (by omega)
    ·refine CW.exit (id := 0) rfl ?_
     refine SR ?_
     refine V (aV (B true) rfl) ?_
     refine RL.nil ?_
     refine CW.ret ?_
     refine outP1 Tryd.results59 (congrArg B ?_) hH13.below
     first | exact (lat_no1 (by omega)).symm | exact (lat_no2 (nt ‹_›)).symm | exact (lat_no3 ‹i < r.n› j0 ‹j < i› (by rw [bothB, nt ‹(!(joinV r i j).2) = true›]; rfl)).symm | exact (lat_no3 ‹i < r.n› j0 ‹j < i› (by rw [bothB, nt ‹(!(meetV r i j).2) = true›]; simp)).symm | exact (lat_yes hn ho ‹_› hg).symm

theorem c_grid_Right (r : Rl) (w : World) : Calls Tryd.prog 80 #[.agg (relC r)] w (Pure (B (rightG r)) w) := by
 refine enter Tryd.func80 rfl Tryd.ntmps80 rfl ?_
 have hH := Hp.start w
 refine SR ?_
 refine RL.new rfl hH (f := fun b => (.pointer (some ⟨b, 0, none⟩))) (run_box (v := .agg _) rfl) ?_
 intro b3 w1 hH2
 refine V (aV (B false) rfl) ?_
 refine RL.nil ?_
 refine SR ?_
 refine V (fA underlying73 0 rfl sizeOf3 rfl) ?_
 refine V (run_ld underlying3 rfl rfl (hH2.cell (i := 0) rfl (relC_N _))) ?_
 refine V (run_geq rfl rfl) ?_
 refine V (mV (B _) rfl) ?_
 refine RL.splitP (dj := 6) rfl (fun h5 => ?_) (fun h5 => ?_)
 ·refine RL.gT rfl (bT h5) ?_
  refine V (fA underlying73 0 rfl sizeOf3 rfl) ?_
  refine RL.gT rfl (bT h5) ?_
  refine V (run_ld underlying3 rfl rfl (hH2.cell (i := 0) rfl (relC_N _))) ?_
  refine RL.gT rfl (bT h5) ?_
  refine V (run_leq rfl rfl) ?_
  refine V (run_pickT (bT h5) (v := B _) rfl) ?_
  refine V (mV (B _) rfl) ?_
  refine RL.splitP (dj := 11) rfl (fun h7 => ?_) (fun h7 => ?_)
  ·refine RL.gT rfl (bT h7) ?_
   refine V (run_ldRel underlying73 rfl rfl rfl (hH2.blk (i := 0) rfl)) ?_
   refine RL.gT rfl (bT h7) ?_
   refine RL.callP rfl hH2 (c_relate_Closed _  _) (run_call1 call98 rfl) ?_
   intro w8 hH9
   refine V (run_pickT (bT h7) (v := B _) rfl) ?_
   refine V (aV (B _) rfl) ?_
   refine RL.nil ?_
   refine CW.ret ?_
   refine outP1 Tryd.results80 (congrArg B ?_) hH9.below
   first | rw [rightG, decide_eq_false (show ¬ (1 ≤ r.n ∧ r.n ≤ 8) by omega), Bool.false_and] | rw [rightG, decide_eq_true (show 1 ≤ r.n ∧ r.n ≤ 8 by omega), Bool.true_and]
  ·refine RL.gF rfl rfl (bF h7) rfl ?_
   refine RL.gF rfl rfl (bF h7) rfl ?_
   refine V (run_pickF (bF h7) (v := B false) rfl) ?_
   refine V (aV (B _) rfl) ?_
   refine RL.nil ?_
   refine CW.ret ?_
   refine outP1 Tryd.results80 (congrArg B ?_) hH2.below
   first | rw [rightG, decide_eq_false (show ¬ (1 ≤ r.n ∧ r.n ≤ 8) by omega), Bool.false_and] | rw [rightG, decide_eq_true (show 1 ≤ r.n ∧ r.n ≤ 8 by omega), Bool.true_and]
 ·refine RL.gF rfl rfl (bF h5) rfl ?_
  refine RL.gF rfl rfl (bF h5) rfl ?_
  refine RL.gF rfl rfl (bF h5) rfl ?_
  refine V (run_pickF (bF h5) (v := B false) rfl) ?_
  refine V (mV (B _) rfl) ?_
  refine RL.gF rfl rfl rfl rfl ?_
  refine RL.gF rfl rfl rfl rfl ?_
  refine V (run_pickF rfl (v := B false) rfl) ?_
  refine V (aV (B _) rfl) ?_
  refine RL.nil ?_
  refine CW.ret ?_
  refine outP1 Tryd.results80 (congrArg B ?_) hH2.below
  first | rw [rightG, decide_eq_false (show ¬ (1 ≤ r.n ∧ r.n ≤ 8) by omega), Bool.false_and] | rw [rightG, decide_eq_true (show 1 ≤ r.n ∧ r.n ≤ 8 by omega), Bool.true_and]

theorem c_name_letter (c : Int) (w : World) : Calls Tryd.prog 66 #[.int .u8 c] w (Pure (B (letterB c)) w) := by
 refine enter Tryd.func66 rfl Tryd.ntmps66 rfl ?_
 have hH := Hp.start w
 refine SR ?_
 refine V (aV (B false) rfl) ?_
 refine RL.nil ?_
 refine SR ?_
 refine V (mV (.int _ _) rfl) ?_
 refine V (run_geq rfl rfl) ?_
 refine V (mV (B _) rfl) ?_
 refine RL.splitP (dj := 5) rfl (fun h2 => ?_) (fun h2 => ?_)
 ·refine RL.gT rfl (bT h2) ?_
  refine V (mV (.int _ _) rfl) ?_
  refine RL.gT rfl (bT h2) ?_
  refine V (run_leq rfl rfl) ?_
  refine V (run_pickT (bT h2) (v := B _) rfl) ?_
  refine V (aV (B _) rfl) ?_
  refine RL.nil ?_
  refine CW.ret ?_
  refine outP1 Tryd.results66 (congrArg B ?_) hH.below
  (rw [letterB, Bool.eq_iff_iff]; simp only [decide_eq_true_eq, Bool.false_eq_true, false_iff]; omega)
 ·refine RL.gF rfl rfl (bF h2) rfl ?_
  refine RL.gF rfl rfl (bF h2) rfl ?_
  refine V (run_pickF (bF h2) (v := B false) rfl) ?_
  refine V (aV (B _) rfl) ?_
  refine RL.nil ?_
  refine CW.ret ?_
  refine outP1 Tryd.results66 (congrArg B ?_) hH.below
  (rw [letterB, Bool.eq_iff_iff]; simp only [decide_eq_true_eq, Bool.false_eq_true, false_iff]; omega)

theorem c_clearanceref02_letter (c : Int) (w : World) : Calls Tryd.prog 71 #[.int .u8 c] w (Pure (B (letterB c)) w) := by
 refine enter Tryd.func71 rfl Tryd.ntmps71 rfl ?_
 have hH := Hp.start w
 refine SR ?_
 refine V (aV (B false) rfl) ?_
 refine RL.nil ?_
 refine SR ?_
 refine V (mV (.int _ _) rfl) ?_
 refine V (run_geq rfl rfl) ?_
 refine V (mV (B _) rfl) ?_
 refine RL.splitP (dj := 5) rfl (fun h2 => ?_) (fun h2 => ?_)
 ·refine RL.gT rfl (bT h2) ?_
  refine V (mV (.int _ _) rfl) ?_
  refine RL.gT rfl (bT h2) ?_
  refine V (run_leq rfl rfl) ?_
  refine V (run_pickT (bT h2) (v := B _) rfl) ?_
  refine V (aV (B _) rfl) ?_
  refine RL.nil ?_
  refine CW.ret ?_
  refine outP1 Tryd.results71 (congrArg B ?_) hH.below
  (rw [letterB, Bool.eq_iff_iff]; simp only [decide_eq_true_eq, Bool.false_eq_true, false_iff]; omega)
 ·refine RL.gF rfl rfl (bF h2) rfl ?_
  refine RL.gF rfl rfl (bF h2) rfl ?_
  refine V (run_pickF (bF h2) (v := B false) rfl) ?_
  refine V (aV (B _) rfl) ?_
  refine RL.nil ?_
  refine CW.ret ?_
  refine outP1 Tryd.results71 (congrArg B ?_) hH.below
  (rw [letterB, Bool.eq_iff_iff]; simp only [decide_eq_true_eq, Bool.false_eq_true, false_iff]; omega)

theorem c_name_goes (c : Int) (w : World) : Calls Tryd.prog 67 #[.int .u8 c] w (Pure (B (goesB c)) w) := by
 refine enter Tryd.func67 rfl Tryd.ntmps67 rfl ?_
 have hH := Hp.start w
 refine SR ?_
 refine V (aV (B false) rfl) ?_
 refine RL.nil ?_
 refine SR ?_
 refine V (mV (.int _ _) rfl) ?_
 refine RL.callP rfl hH (c_name_letter _  _) (run_call1 call66 rfl) ?_
 intro w1 hH2
 refine V (mV (B _) rfl) ?_
 refine RL.split (dj := 5) rfl (fun h4 => ?_) (fun h4 => ?_)
 ·refine RL.gF rfl rfl (bR (c := true) h4) rfl ?_
  refine RL.gF rfl rfl (bR (c := true) h4) rfl ?_
  refine RL.gF rfl rfl (bR (c := true) h4) rfl ?_
  refine RL.gU rfl rfl rfl ?_
  refine RL.gU rfl rfl rfl ?_
  refine RL.gF rfl rfl (bR (c := true) h4) rfl ?_
  refine V (run_pickT (bR (c := true) h4) (v := B true) rfl) ?_
  refine V (mV (B _) rfl) ?_
  refine RL.gF rfl rfl rfl rfl ?_
  refine RL.gF rfl rfl rfl rfl ?_
  refine V (run_pickT rfl (v := B true) rfl) ?_
  refine V (aV (B _) rfl) ?_
  refine RL.nil ?_
  refine CW.ret ?_
  refine outP1 Tryd.results67 (congrArg B ?_) hH2.below
  first | exact (goes_letter ‹_›).symm | (have hlc := ‹letterB c = false›; rw [letterB, decide_eq_false_iff_not] at hlc; rw [goesB, Bool.eq_iff_iff]; simp only [decide_eq_true_eq, Bool.false_eq_true, false_iff, true_iff]; omega)
 ·refine RL.gT rfl (bR (c := false) h4) ?_
  refine V (mV (.int _ _) rfl) ?_
  refine RL.gT rfl (bR (c := false) h4) ?_
  refine V (run_geq rfl rfl) ?_
  refine RL.gT rfl (bR (c := false) h4) ?_
  refine V (mV (B _) rfl) ?_
  refine RL.splitP (dj := 8) rfl (fun h6 => ?_) (fun h6 => ?_)
  ·refine RL.gT rfl (bT h6) ?_
   refine V (mV (.int _ _) rfl) ?_
   refine RL.gT rfl (bT h6) ?_
   refine V (run_leq rfl rfl) ?_
   refine RL.gT rfl (bR (c := false) h4) ?_
   refine V (run_pickT (bT h6) (v := B _) rfl) ?_
   refine V (run_pickF (bR (c := false) h4) (v := B _) rfl) ?_
   refine V (mV (B _) rfl) ?_
   refine RL.splitP (dj := 13) rfl (fun h8 => ?_) (fun h8 => ?_)
   ·refine RL.gF rfl rfl (bT h8) rfl ?_
    refine RL.gF rfl rfl (bT h8) rfl ?_
    refine V (run_pickT (bT h8) (v := B true) rfl) ?_
    refine V (aV (B _) rfl) ?_
    refine RL.nil ?_
    refine CW.ret ?_
    refine outP1 Tryd.results67 (congrArg B ?_) hH2.below
    first | exact (goes_letter ‹_›).symm | (have hlc := ‹letterB c = false›; rw [letterB, decide_eq_false_iff_not] at hlc; rw [goesB, Bool.eq_iff_iff]; simp only [decide_eq_true_eq, Bool.false_eq_true, false_iff, true_iff]; omega)
   ·refine RL.gT rfl (bF h8) ?_
    refine V (mV (.int _ _) rfl) ?_
    refine RL.gT rfl (bF h8) ?_
    refine V (run_eql rfl rfl) ?_
    refine V (run_pickF (bF h8) (v := B _) rfl) ?_
    refine V (aV (B _) rfl) ?_
    refine RL.nil ?_
    refine CW.ret ?_
    refine outP1 Tryd.results67 (congrArg B ?_) hH2.below
    first | exact (goes_letter ‹_›).symm | (have hlc := ‹letterB c = false›; rw [letterB, decide_eq_false_iff_not] at hlc; rw [goesB, Bool.eq_iff_iff]; simp only [decide_eq_true_eq, Bool.false_eq_true, false_iff, true_iff]; omega)
  ·refine RL.gF rfl rfl (bF h6) rfl ?_
   refine RL.gF rfl rfl (bF h6) rfl ?_
   refine RL.gT rfl (bR (c := false) h4) ?_
   refine V (run_pickF (bF h6) (v := B false) rfl) ?_
   refine V (run_pickF (bR (c := false) h4) (v := B _) rfl) ?_
   refine V (mV (B _) rfl) ?_
   refine RL.gT rfl rfl ?_
   refine V (mV (.int _ _) rfl) ?_
   refine RL.gT rfl rfl ?_
   refine V (run_eql rfl rfl) ?_
   refine V (run_pickF rfl (v := B _) rfl) ?_
   refine V (aV (B _) rfl) ?_
   refine RL.nil ?_
   refine CW.ret ?_
   refine outP1 Tryd.results67 (congrArg B ?_) hH2.below
   first | exact (goes_letter ‹_›).symm | (have hlc := ‹letterB c = false›; rw [letterB, decide_eq_false_iff_not] at hlc; rw [goesB, Bool.eq_iff_iff]; simp only [decide_eq_true_eq, Bool.false_eq_true, false_iff, true_iff]; omega)

theorem c_name_Right (s : Tx) (w : World) : Calls Tryd.prog 38 #[S s] w (Pure (B (nameR s)) w) := by
 have htx := @tx_nil s
 refine enter Tryd.func38 rfl Tryd.ntmps38 rfl ?_
 have hH := Hp.start w
 refine SR ?_
 refine V (aV (B false) rfl) ?_
 refine RL.nil ?_
 refine CW.seq ?_
 refine SR ?_
 refine V (mV (.string _) rfl) ?_
 refine V (run_eqlS rfl rfl) ?_
 refine V (mV (B _) rfl) ?_
 refine RL.splitP (dj := 6) rfl (fun h2 => ?_) (fun h2 => ?_)
 ·refine RL.gF rfl rfl (bT h2) rfl ?_
  refine RL.gF rfl rfl (bT h2) rfl ?_
  refine RL.gF rfl rfl (bT h2) rfl ?_
  refine V (run_pickT (bT h2) (v := B true) rfl) ?_
  refine V (mV (B _) rfl) ?_
  refine RL.gF rfl rfl rfl rfl ?_
  refine RL.gF rfl rfl rfl rfl ?_
  refine RL.gF rfl rfl rfl rfl ?_
  refine RL.gF rfl rfl rfl rfl ?_
  refine V (run_pickT rfl (v := B true) rfl) ?_
  refine RL.nil ?_
  refine CW.condT rfl ?_
  refine SR ?_
  refine V (aV (B false) rfl) ?_
  refine RL.nil ?_
  refine CW.ret ?_
  refine outP1 Tryd.results38 (congrArg B ?_) hH.below
  first | exact (nameR_no1 (by first | omega | (have := htx.1 ‹s = tx0›; omega))).symm | exact (nameR_no2 (nt ‹_›)).symm | exact (nameR_no3 h0 ‹_› (nt ‹_›)).symm | exact (nameR_yes hsz (nf ‹_›) ‹_› hf).symm
 ·refine RL.gT rfl (bF h2) ?_
  refine V (mV (.string _) rfl) ?_
  refine RL.gT rfl (bF h2) ?_
  refine V (run_lenStr rfl underlying9 rfl) ?_
  refine RL.gT rfl (bF h2) ?_
  refine V (run_gtr rfl rfl) ?_
  refine V (run_pickF (bF h2) (v := B _) rfl) ?_
  refine V (mV (B _) rfl) ?_
  refine RL.splitP (dj := 11) rfl (fun h4 => ?_) (fun h4 => ?_)
  ·refine RL.gF rfl rfl (bT h4) rfl ?_
   refine RL.gF rfl rfl (bT h4) rfl ?_
   refine RL.gF rfl rfl (bT h4) rfl ?_
   refine RL.gF rfl rfl (bT h4) rfl ?_
   refine V (run_pickT (bT h4) (v := B true) rfl) ?_
   refine RL.nil ?_
   refine CW.condT rfl ?_
   refine SR ?_
   refine V (aV (B false) rfl) ?_
   refine RL.nil ?_
   refine CW.ret ?_
   refine outP1 Tryd.results38 (congrArg B ?_) hH.below
   first | exact (nameR_no1 (by first | omega | (have := htx.1 ‹s = tx0›; omega))).symm | exact (nameR_no2 (nt ‹_›)).symm | exact (nameR_no3 h0 ‹_› (nt ‹_›)).symm | exact (nameR_yes hsz (nf ‹_›) ‹_› hf).symm
  ·refine RL.gT rfl (bF h4) ?_
   refine V (mV (.string _) rfl) ?_
   refine RL.gT rfl (bF h4) ?_
   refine V (run_idxS underlying9 rfl rfl (by first | omega | (have := mt htx.2 ‹¬ s = tx0›; omega))) ?_
   refine RL.gT rfl (bF h4) ?_
   refine RL.callP rfl hH (c_name_letter _  _) (run_call1 call66 rfl) ?_
   intro w5 hH6
   refine RL.gT rfl (bF h4) ?_
   refine V (run_not rfl) ?_
   refine V (run_pickF (bF h4) (v := B _) rfl) ?_
   refine RL.nil ?_
   refine CW.cond rfl (fun h9 => ?_) (fun h9 => ?_)
   ·refine SR ?_
    refine V (aV (B false) rfl) ?_
    refine RL.nil ?_
    refine CW.ret ?_
    refine outP1 Tryd.results38 (congrArg B ?_) hH6.below
    first | exact (nameR_no1 (by first | omega | (have := htx.1 ‹s = tx0›; omega))).symm | exact (nameR_no2 (nt ‹_›)).symm | exact (nameR_no3 h0 ‹_› (nt ‹_›)).symm | exact (nameR_yes hsz (nf ‹_›) ‹_› hf).symm
   ·refine CW.skip ?_
    refine CW.seq ?_
    refine SR ?_
    refine V (mV (.string _) rfl) ?_
    refine V (run_lenStr rfl underlying9 rfl) ?_
    refine V (mV (I 0) rfl) ?_
    refine RL.nil ?_
    refine CW.block ?_
    have hsz : 1 ≤ s.size ∧ s.size ≤ 16 := ⟨by have := mt htx.2 ‹¬ s = tx0›; omega, by omega⟩
    refine CW.loop (G := (Int)) (fun (k : Int) s' w' => (Fr [2, 3, 19, 20, 21, 22, 23, 24, 25, 26, 27] _ s') ∧ (Hp w w' _) ∧ (s' 19 = I k) ∧ (0 ≤ k) ∧ (k ≤ s.size) ∧ (∀ j : Int, 0 ≤ j → j < k → goesB (byteAt s j) = true)) (fun (k : Int) => (s.size - k).toNat) (0) ⟨Fr.refl _ _, hH6, rfl, (by omega), (by omega), fun j a b => absurd b (by omega)⟩ ?_
    rintro k sg10 w10 ⟨fr10, hH10, e19_10, h0, hk, hf⟩
    have e0_10 : sg10 0 = .string _ := (fr10 0 rfl).trans rfl
    have e18_10 : sg10 18 = I _ := (fr10 18 rfl).trans rfl
    refine SR ?_
    refine V (run_lss e19_10 e18_10) ?_
    refine RL.nil ?_
    refine CW.seq ?_
    refine CW.condP rfl (fun h12 => ?_) (fun h12 => ?_)
    ·refine CW.skip ?_
     refine CW.seq ?_
     refine CW.block ?_
     refine SR ?_
     refine V (run_move e19_10) ?_
     refine V (aV (I _) rfl) ?_
     refine RL.nil ?_
     refine SR ?_
     refine V (run_move e0_10) ?_
     refine V (mV (I _) rfl) ?_
     refine V (run_idxS underlying9 rfl rfl (by first | omega | (have := mt htx.2 ‹¬ s = tx0›; omega))) ?_
     refine RL.callP rfl hH10 (c_name_goes _  _) (run_call1 call67 rfl) ?_
     intro w13 hH14
     refine V (run_not rfl) ?_
     refine RL.nil ?_
     refine CW.cond rfl (fun h17 => ?_) (fun h17 => ?_)
     ·refine SR ?_
      refine V (aV (B false) rfl) ?_
      refine RL.nil ?_
      refine CW.ret ?_
      refine outP1 Tryd.results38 (congrArg B ?_) hH14.below
      first | exact (nameR_no1 (by first | omega | (have := htx.1 ‹s = tx0›; omega))).symm | exact (nameR_no2 (nt ‹_›)).symm | exact (nameR_no3 h0 ‹_› (nt ‹_›)).symm | exact (nameR_yes hsz (nf ‹_›) ‹_› hf).symm
     ·refine CW.skip ?_
      refine CW.region ?_
      refine V (run_add e19_10 rfl (by omega)) ?_
      refine V (mV (I _) rfl) ?_
      refine RL.nil ?_
      refine ⟨k + 1, ?_, fr10.u4.u4.u1.u1, hH14, (congrArg I (by first | rfl | omega)), ?_, ?_, ?_⟩
      ·((try dsimp only); omega)
      ·omega
      ·omega
      ·exact fun j a b => if e : j = k then e ▸ nf ‹_› else hf j a (by omega)
    ·refine CW.exit (id := 0) rfl ?_
     refine SR ?_
     refine V (aV (B true) rfl) ?_
     refine RL.nil ?_
     refine CW.ret ?_
     refine outP1 Tryd.results38 (congrArg B ?_) hH10.below
     first | exact (nameR_no1 (by first | omega | (have := htx.1 ‹s = tx0›; omega))).symm | exact (nameR_no2 (nt ‹_›)).symm | exact (nameR_no3 h0 ‹_› (nt ‹_›)).symm | exact (nameR_yes hsz (nf ‹_›) ‹_› hf).symm

theorem c_clearanceref02_Right (s : Tx) (w : World) : Calls Tryd.prog 42 #[S s] w (Pure (B (nameR s)) w) := by
 refine enter Tryd.func42 rfl Tryd.ntmps42 rfl ?_
 have hH := Hp.start w
 refine SR ?_
 refine V (aV (B false) rfl) ?_
 refine RL.nil ?_
 refine CW.seq ?_
 refine SR ?_
 refine V (mV (.string _) rfl) ?_
 refine V (run_lenStr rfl underlying9 rfl) ?_
 refine V (run_lss rfl rfl) ?_
 refine V (mV (B _) rfl) ?_
 refine RL.splitP (dj := 7) rfl (fun h2 => ?_) (fun h2 => ?_)
 ·refine RL.gF rfl rfl (bT h2) rfl ?_
  refine RL.gF rfl rfl (bT h2) rfl ?_
  refine RL.gF rfl rfl (bT h2) rfl ?_
  refine V (run_pickT (bT h2) (v := B true) rfl) ?_
  refine V (mV (B _) rfl) ?_
  refine RL.gF rfl rfl rfl rfl ?_
  refine RL.gF rfl rfl rfl rfl ?_
  refine RL.gF rfl rfl rfl rfl ?_
  refine RL.gF rfl rfl rfl rfl ?_
  refine V (run_pickT rfl (v := B true) rfl) ?_
  refine RL.nil ?_
  refine CW.condT rfl ?_
  refine SR ?_
  refine V (aV (B false) rfl) ?_
  refine RL.nil ?_
  refine CW.ret ?_
  refine outP1 Tryd.results42 (congrArg B ?_) hH.below
  first | exact (nameR_no1 (by omega)).symm | exact (nameR_no2 (nt ‹_›)).symm | exact (nameR_yes hsz hlt ‹_› hf).symm | exact (nameR_no3 (i := k) (by omega) ‹_› (by have hlc := nt ‹(!letterB (byteAt s k)) = true›; rw [letterB, decide_eq_false_iff_not] at hlc; rw [goesB, decide_eq_false_iff_not]; omega)).symm
 ·refine RL.gT rfl (bF h2) ?_
  refine V (mV (.string _) rfl) ?_
  refine RL.gT rfl (bF h2) ?_
  refine V (run_lenStr rfl underlying9 rfl) ?_
  refine RL.gT rfl (bF h2) ?_
  refine V (run_gtr rfl rfl) ?_
  refine V (run_pickF (bF h2) (v := B _) rfl) ?_
  refine V (mV (B _) rfl) ?_
  refine RL.splitP (dj := 12) rfl (fun h4 => ?_) (fun h4 => ?_)
  ·refine RL.gF rfl rfl (bT h4) rfl ?_
   refine RL.gF rfl rfl (bT h4) rfl ?_
   refine RL.gF rfl rfl (bT h4) rfl ?_
   refine RL.gF rfl rfl (bT h4) rfl ?_
   refine V (run_pickT (bT h4) (v := B true) rfl) ?_
   refine RL.nil ?_
   refine CW.condT rfl ?_
   refine SR ?_
   refine V (aV (B false) rfl) ?_
   refine RL.nil ?_
   refine CW.ret ?_
   refine outP1 Tryd.results42 (congrArg B ?_) hH.below
   first | exact (nameR_no1 (by omega)).symm | exact (nameR_no2 (nt ‹_›)).symm | exact (nameR_yes hsz hlt ‹_› hf).symm | exact (nameR_no3 (i := k) (by omega) ‹_› (by have hlc := nt ‹(!letterB (byteAt s k)) = true›; rw [letterB, decide_eq_false_iff_not] at hlc; rw [goesB, decide_eq_false_iff_not]; omega)).symm
  ·refine RL.gT rfl (bF h4) ?_
   refine V (mV (.string _) rfl) ?_
   refine RL.gT rfl (bF h4) ?_
   refine V (run_idxS underlying9 rfl rfl (by omega)) ?_
   refine RL.gT rfl (bF h4) ?_
   refine RL.callP rfl hH (c_clearanceref02_letter _  _) (run_call1 call71 rfl) ?_
   intro w5 hH6
   refine RL.gT rfl (bF h4) ?_
   refine V (run_not rfl) ?_
   refine V (run_pickF (bF h4) (v := B _) rfl) ?_
   refine RL.nil ?_
   refine CW.cond rfl (fun h9 => ?_) (fun h9 => ?_)
   ·refine SR ?_
    refine V (aV (B false) rfl) ?_
    refine RL.nil ?_
    refine CW.ret ?_
    refine outP1 Tryd.results42 (congrArg B ?_) hH6.below
    first | exact (nameR_no1 (by omega)).symm | exact (nameR_no2 (nt ‹_›)).symm | exact (nameR_yes hsz hlt ‹_› hf).symm | exact (nameR_no3 (i := k) (by omega) ‹_› (by have hlc := nt ‹(!letterB (byteAt s k)) = true›; rw [letterB, decide_eq_false_iff_not] at hlc; rw [goesB, decide_eq_false_iff_not]; omega)).symm
   ·refine CW.skip ?_
    refine CW.seq ?_
    refine SR ?_
    refine V (aV (I 1) rfl) ?_
    refine RL.nil ?_
    refine CW.block ?_
    have hsz : 1 ≤ s.size ∧ s.size ≤ 16 := by omega
    have hlt : letterB (byteAt s 0) = true := nf ‹_›
    refine CW.loop (G := (Int)) (fun (k : Int) s' w' => (Fr [2, 3, 18, 19, 20, 21, 22, 23, 24, 25, 26, 27, 28, 29, 30, 31, 32, 33, 34, 35, 36, 37, 38, 39, 40, 41, 42, 43, 44, 45, 46] _ s') ∧ (Hp w w' _) ∧ (s' 3 = I k) ∧ (1 ≤ k) ∧ (k ≤ s.size) ∧ (∀ j : Int, 0 ≤ j → j < k → goesB (byteAt s j) = true)) (fun (k : Int) => (s.size - k).toNat) (1) ⟨Fr.refl _ _, hH6, rfl, (by omega), (by omega), fun j a b => by rw [show j = 0 by omega]; exact goes_letter hlt⟩ ?_
    rintro k sg10 w10 ⟨fr10, hH10, e3_10, h0, hk, hf⟩
    have e0_10 : sg10 0 = .string _ := (fr10 0 rfl).trans rfl
    refine CW.seq ?_
    refine SR ?_
    refine V (run_move e3_10) ?_
    refine V (run_move e0_10) ?_
    refine V (run_lenStr rfl underlying9 rfl) ?_
    refine V (run_lss rfl rfl) ?_
    refine RL.nil ?_
    refine CW.condP rfl (fun h12 => ?_) (fun h12 => ?_)
    ·refine CW.skip ?_
     refine CW.seq ?_
     refine CW.block ?_
     refine SR ?_
     refine V (run_move e0_10) ?_
     refine V (run_move e3_10) ?_
     refine V (run_idxS underlying9 rfl rfl (by omega)) ?_
     refine RL.callP rfl hH10 (c_clearanceref02_letter _  _) (run_call1 call71 rfl) ?_
     intro w13 hH14
     refine V (run_not rfl) ?_
     refine V (mV (B _) rfl) ?_
     refine RL.split (dj := 29) rfl (fun h17 => ?_) (fun h17 => ?_)
     ·refine RL.gT rfl (bR (c := true) h17) ?_
      refine V (run_move e0_10) ?_
      refine RL.gT rfl (bR (c := true) h17) ?_
      refine V (run_move e3_10) ?_
      refine RL.gT rfl (bR (c := true) h17) ?_
      refine V (run_idxS underlying9 rfl rfl (by omega)) ?_
      refine RL.gT rfl (bR (c := true) h17) ?_
      refine V (run_lss rfl rfl) ?_
      refine RL.gT rfl (bR (c := true) h17) ?_
      refine V (mV (B _) rfl) ?_
      refine RL.splitP (dj := 34) rfl (fun h19 => ?_) (fun h19 => ?_)
      ·refine RL.gF rfl rfl (bT h19) rfl ?_
       refine RL.gF rfl rfl (bT h19) rfl ?_
       refine RL.gF rfl rfl (bT h19) rfl ?_
       refine RL.gF rfl rfl (bT h19) rfl ?_
       refine RL.gT rfl (bR (c := true) h17) ?_
       refine V (run_pickT (bT h19) (v := B true) rfl) ?_
       refine V (run_pickT (bR (c := true) h17) (v := B _) rfl) ?_
       refine V (mV (B _) rfl) ?_
       refine RL.gT rfl rfl ?_
       refine V (run_move e0_10) ?_
       refine RL.gT rfl rfl ?_
       refine V (run_move e3_10) ?_
       refine RL.gT rfl rfl ?_
       refine V (run_idxS underlying9 rfl rfl (by omega)) ?_
       refine RL.gT rfl rfl ?_
       refine V (run_neq rfl rfl) ?_
       refine V (run_pickT rfl (v := B _) rfl) ?_
       refine RL.nil ?_
       refine CW.condP rfl (fun h21 => ?_) (fun h21 => ?_)
       ·refine SR ?_
        refine V (aV (B false) rfl) ?_
        refine RL.nil ?_
        refine CW.ret ?_
        refine outP1 Tryd.results42 (congrArg B ?_) hH14.below
        first | exact (nameR_no1 (by omega)).symm | exact (nameR_no2 (nt ‹_›)).symm | exact (nameR_yes hsz hlt ‹_› hf).symm | exact (nameR_no3 (i := k) (by omega) ‹_› (by have hlc := nt ‹(!letterB (byteAt s k)) = true›; rw [letterB, decide_eq_false_iff_not] at hlc; rw [goesB, decide_eq_false_iff_not]; omega)).symm
       ·refine CW.skip ?_
        refine CW.region ?_
        refine V (run_move e3_10) ?_
        refine V (run_add rfl rfl (by omega)) ?_
        refine V (aV (I _) rfl) ?_
        refine RL.nil ?_
        refine ⟨k + 1, ?_, fr10.u4.u4.u4.u4.u4.u4.u4.u1.u1, hH14, (congrArg I (by first | rfl | omega)), ?_, ?_, ?_⟩
        ·((try dsimp only); omega)
        ·omega
        ·omega
        ·exact fun j a b => if e : j = k then e ▸ (by first | exact goes_letter (nf ‹_›) | exact goes_letter ‹_› | (rw [goesB, decide_eq_true_eq]; omega)) else hf j a (by omega)
      ·refine RL.gT rfl (bF h19) ?_
       refine V (run_move e0_10) ?_
       refine RL.gT rfl (bF h19) ?_
       refine V (run_move e3_10) ?_
       refine RL.gT rfl (bF h19) ?_
       refine V (run_idxS underlying9 rfl rfl (by omega)) ?_
       refine RL.gT rfl (bF h19) ?_
       refine V (run_gtr rfl rfl) ?_
       refine RL.gT rfl (bR (c := true) h17) ?_
       refine V (run_pickF (bF h19) (v := B _) rfl) ?_
       refine V (run_pickT (bR (c := true) h17) (v := B _) rfl) ?_
       refine V (mV (B _) rfl) ?_
       refine RL.splitP (dj := 41) rfl (fun h23 => ?_) (fun h23 => ?_)
       ·refine RL.gT rfl (bT h23) ?_
        refine V (run_move e0_10) ?_
        refine RL.gT rfl (bT h23) ?_
        refine V (run_move e3_10) ?_
        refine RL.gT rfl (bT h23) ?_
        refine V (run_idxS underlying9 rfl rfl (by omega)) ?_
        refine RL.gT rfl (bT h23) ?_
        refine V (run_neq rfl rfl) ?_
        refine V (run_pickT (bT h23) (v := B _) rfl) ?_
        refine RL.nil ?_
        refine CW.condP rfl (fun h25 => ?_) (fun h25 => ?_)
        ·refine SR ?_
         refine V (aV (B false) rfl) ?_
         refine RL.nil ?_
         refine CW.ret ?_
         refine outP1 Tryd.results42 (congrArg B ?_) hH14.below
         first | exact (nameR_no1 (by omega)).symm | exact (nameR_no2 (nt ‹_›)).symm | exact (nameR_yes hsz hlt ‹_› hf).symm | exact (nameR_no3 (i := k) (by omega) ‹_› (by have hlc := nt ‹(!letterB (byteAt s k)) = true›; rw [letterB, decide_eq_false_iff_not] at hlc; rw [goesB, decide_eq_false_iff_not]; omega)).symm
        ·refine CW.skip ?_
         refine CW.region ?_
         refine V (run_move e3_10) ?_
         refine V (run_add rfl rfl (by omega)) ?_
         refine V (aV (I _) rfl) ?_
         refine RL.nil ?_
         refine ⟨k + 1, ?_, fr10.u4.u4.u4.u4.u4.u4.u4.u1.u1, hH14, (congrArg I (by first | rfl | omega)), ?_, ?_, ?_⟩
         ·((try dsimp only); omega)
         ·omega
         ·omega
         ·exact fun j a b => if e : j = k then e ▸ (by first | exact goes_letter (nf ‹_›) | exact goes_letter ‹_› | (rw [goesB, decide_eq_true_eq]; omega)) else hf j a (by omega)
       ·refine RL.gF rfl rfl (bF h23) rfl ?_
        refine RL.gF rfl rfl (bF h23) rfl ?_
        refine RL.gF rfl rfl (bF h23) rfl ?_
        refine RL.gF rfl rfl (bF h23) rfl ?_
        refine V (run_pickF (bF h23) (v := B false) rfl) ?_
        refine RL.nil ?_
        refine CW.condF rfl ?_
        refine CW.skip ?_
        refine CW.region ?_
        refine V (run_move e3_10) ?_
        refine V (run_add rfl rfl (by omega)) ?_
        refine V (aV (I _) rfl) ?_
        refine RL.nil ?_
        refine ⟨k + 1, ?_, fr10.u4.u4.u4.u4.u4.u4.u4.u1.u1, hH14, (congrArg I (by first | rfl | omega)), ?_, ?_, ?_⟩
        ·((try dsimp only); omega)
        ·omega
        ·omega
        ·exact fun j a b => if e : j = k then e ▸ (by first | exact goes_letter (nf ‹_›) | exact goes_letter ‹_› | (rw [goesB, decide_eq_true_eq]; omega)) else hf j a (by omega)
     ·refine RL.gF rfl rfl (bR (c := false) h17) rfl ?_
      refine RL.gF rfl rfl (bR (c := false) h17) rfl ?_
      refine RL.gF rfl rfl (bR (c := false) h17) rfl ?_
      refine RL.gF rfl rfl (bR (c := false) h17) rfl ?_
      refine RL.gF rfl rfl (bR (c := false) h17) rfl ?_
      refine RL.gU rfl rfl rfl ?_
      refine RL.gU rfl rfl rfl ?_
      refine RL.gU rfl rfl rfl ?_
      refine RL.gU rfl rfl rfl ?_
      refine RL.gF rfl rfl (bR (c := false) h17) rfl ?_
      refine V (run_pickF (bR (c := false) h17) (v := B false) rfl) ?_
      refine V (mV (B _) rfl) ?_
      refine RL.gF rfl rfl rfl rfl ?_
      refine RL.gF rfl rfl rfl rfl ?_
      refine RL.gF rfl rfl rfl rfl ?_
      refine RL.gF rfl rfl rfl rfl ?_
      refine V (run_pickF rfl (v := B false) rfl) ?_
      refine RL.nil ?_
      refine CW.condF rfl ?_
      refine CW.skip ?_
      refine CW.region ?_
      refine V (run_move e3_10) ?_
      refine V (run_add rfl rfl (by omega)) ?_
      refine V (aV (I _) rfl) ?_
      refine RL.nil ?_
      refine ⟨k + 1, ?_, fr10.u4.u4.u4.u4.u4.u4.u4.u1.u1, hH14, (congrArg I (by first | rfl | omega)), ?_, ?_, ?_⟩
      ·((try dsimp only); omega)
      ·omega
      ·omega
      ·exact fun j a b => if e : j = k then e ▸ (by first | exact goes_letter (nf ‹_›) | exact goes_letter ‹_› | (rw [goesB, decide_eq_true_eq]; omega)) else hf j a (by omega)
    ·refine CW.exit (id := 0) rfl ?_
     refine SR ?_
     refine V (aV (B true) rfl) ?_
     refine RL.nil ?_
     refine CW.ret ?_
     refine outP1 Tryd.results42 (congrArg B ?_) hH10.below
     first | exact (nameR_no1 (by omega)).symm | exact (nameR_no2 (nt ‹_›)).symm | exact (nameR_yes hsz hlt ‹_› hf).symm | exact (nameR_no3 (i := k) (by omega) ‹_› (by have hlc := nt ‹(!letterB (byteAt s k)) = true›; rw [letterB, decide_eq_false_iff_not] at hlc; rw [goesB, decide_eq_false_iff_not]; omega)).symm

theorem c_name_place (n : Int) (f : FuncId) (cs : List Value) (P : Int → Bool) (hn : 0 ≤ n ∧ n ≤ 9223372036854775807) (w : World) (hf : ∀ args w, (callFunc f args).run Tryd.prog w = .ok (.enter f args) w) (go : ∀ i w', Below w.heap.size w w' → 0 ≤ i → i < n → Calls Tryd.prog f (I i :: cs).toArray w' (Pure (B (P i)) w')) : Calls Tryd.prog 68 #[I 0, I n, .func (.func f) #[] cs.toArray] w (Pure (I (findV P n)) w) := by
 refine enter Tryd.func68 rfl Tryd.ntmps68 rfl ?_
 have hH := Hp.start w
 refine SR ?_
 refine V (aV (I 0) rfl) ?_
 refine RL.nil ?_
 refine CW.seq ?_
 refine SR ?_
 refine V (mV (I _) rfl) ?_
 refine V (aV (I _) rfl) ?_
 refine RL.nil ?_
 refine CW.block ?_
 refine CW.loop (G := (Int)) (fun (k : Int) s' w' => (Fr [6, 7, 9, 10, 11, 12, 13, 14, 15, 16, 17] _ s') ∧ (Hp w w' _) ∧ (s' 7 = I k) ∧ (0 ≤ k) ∧ (k ≤ n) ∧ (∀ j : Int, 0 ≤ j → j < k → P j = false)) (fun (k : Int) => (n - k).toNat) (0) ⟨Fr.refl _ _, hH, rfl, (by omega), (by omega), fun j a b => absurd b (by omega)⟩ ?_
 rintro k sg1 w1 ⟨fr1, hH1, e7_1, h0, hk, hg⟩
 have e1_1 : sg1 1 = I _ := (fr1 1 rfl).trans rfl
 have e2_1 : sg1 2 = .func _ _ _ := (fr1 2 rfl).trans rfl
 refine CW.seq ?_
 refine SR ?_
 refine V (run_move e7_1) ?_
 refine V (run_move e1_1) ?_
 refine V (run_lss rfl rfl) ?_
 refine RL.nil ?_
 refine CW.condP rfl (fun h3 => ?_) (fun h3 => ?_)
 ·refine CW.skip ?_
  refine CW.seq ?_
  refine CW.block ?_
  refine SR ?_
  refine V (run_move e2_1) ?_
  refine V (run_move e7_1) ?_
  refine RL.callP rfl hH1 (go _ _ hH1.below (by omega) (by omega)) (run_callC1 hf (cs := cs) rfl rfl) ?_
  intro w4 hH5
  refine RL.nil ?_
  refine CW.cond rfl (fun h7 => ?_) (fun h7 => ?_)
  ·refine SR ?_
   refine V (run_move e7_1) ?_
   refine V (aV (I _) rfl) ?_
   refine RL.nil ?_
   refine CW.ret ?_
   refine outP1 Tryd.results68 (congrArg I ?_) hH5.below
   first | exact (find_yes h0 ‹_› ‹_› hg).symm | exact (find_no fun j a b => hg j a (by omega)).symm
  ·refine CW.skip ?_
   refine CW.region ?_
   refine V (run_move e7_1) ?_
   refine V (run_add rfl rfl (by omega)) ?_
   refine V (aV (I _) rfl) ?_
   refine RL.nil ?_
   refine ⟨k + 1, ?_, fr1.u4.u4.u1, hH5, (congrArg I (by first | rfl | omega)), ?_, ?_, ?_⟩
   ·((try dsimp only); omega)
   ·omega
   ·omega
   ·exact fun j a b => if e : j = k then e ▸ ‹P k = false› else hg j a (by omega)
 ·refine CW.exit (id := 0) rfl ?_
  refine SR ?_
  refine V (aV (I (-1)) rfl) ?_
  refine RL.nil ?_
  refine CW.ret ?_
  refine outP1 Tryd.results68 (congrArg I ?_) hH1.below
  first | exact (find_yes h0 ‹_› ‹_› hg).symm | exact (find_no fun j a b => hg j a (by omega)).symm

theorem c_name_Find_1 (b c : Nat) (v : Value) (l : List Tx) (s : Tx) (i : Int) (hi : 0 ≤ i ∧ i < l.length) (w : World) (hs : Sl w v 1 l.length (txL l)) (hb : w.heap[b]? = some (.cells #[v] 75 (0, 0))) (hc : w.heap[c]? = some (.cells #[S s] 9 (0, 0))) : Calls Tryd.prog 86 #[I i, .pointer (some ⟨b, 0, none⟩), .pointer (some ⟨c, 0, none⟩)] w (Pure (B (decide (l.getD i.toNat tx0 = s))) w) := by
 have hm := hs.small
 unfold maxLen at hm
 refine enter Tryd.func86 rfl Tryd.ntmps86 rfl ?_
 have hH := Hp.start w
 refine SR ?_
 refine V (aV (B false) rfl) ?_
 refine RL.nil ?_
 refine CW.seq ?_
 refine CW.regionD (by kernel_rfl) hH ?_
 intro w1 hH2
 refine AT 0 rfl (hH2.sub sR) (fun w hS => run_ld underlying75 rfl rfl (hS.extCell hb rfl)) ?_
 refine AT 1 rfl (hH2.sub sR) (fun w hS => mV (I _) rfl) ?_
 refine AT 2 rfl (hH2.sub sR) (fun w hS => run_indexAddrS (hs.hp hS) underlying75 sizeOf9 rfl rfl (by omega)) ?_
 refine AT 3 rfl (hH2.sub sR) (fun w hS => run_ld underlying9 rfl rfl ((hs.hp hS).cell _ _ (txL_at (by omega)))) ?_
 refine AT 4 rfl (hH2.sub sR) (fun w hS => run_ld underlying9 rfl rfl (hS.extCell hc (v := .string _) rfl)) ?_
 refine AT 5 rfl (hH2.sub sR) (fun w hS => run_eqlS rfl rfl) ?_
 refine AT 6 rfl (hH2.sub sR) (fun w hS => aV (B _) rfl) ?_
 refine AD ?_
 refine CW.ret ?_
 refine outP1 Tryd.results86 (congrArg B ?_) hH2.below
 rfl

theorem c_name_Find (v : Value) (l : List Tx) (s : Tx) (w : World) (hs : Sl w v 1 l.length (txL l)) : Calls Tryd.prog 57 #[v, S s] w (Pure (I (nfind l s)) w) := by
 have hm := hs.small
 unfold maxLen at hm
 refine enter Tryd.func57 rfl Tryd.ntmps57 rfl ?_
 have hH := Hp.start w
 refine SR ?_
 refine RL.new rfl hH (f := fun b => (.pointer (some ⟨b, 0, none⟩))) (run_box (by conv => lhs; whnf)) ?_
 intro b3 w1 hH2
 rw [(one_sl hs).2] at hH2
 refine RL.new rfl hH2 (f := fun b => (.pointer (some ⟨b, 0, none⟩))) (run_box (v := .string _) rfl) ?_
 intro b6 w4 hH5
 refine V (aV (I 0) rfl) ?_
 refine RL.nil ?_
 refine SR ?_
 refine V (run_ld underlying75 rfl rfl (hH5.cell (i := 1) rfl rfl)) ?_
 refine V (run_lenSl (hs.hp hH5) rfl underlying75 rfl) ?_
 refine V (run_mkF2 (by conv => lhs; whnf) (by conv => lhs; whnf)) ?_
 refine RL.callP rfl hH5 (c_name_place _ 86 [.pointer (some ⟨b3, 0, none⟩), .pointer (some ⟨b6, 0, none⟩)] (fun i => decide (l.getD i.toNat tx0 = s)) (by omega) _ call86 (fun i w h h0 h1 => c_name_Find_1 b3 b6 v l s i ⟨h0, h1⟩ w ((hs.hp hH5).below h) (keep h (hH5.blk (i := 1) rfl)) (keep h (hH5.blk (i := 0) rfl)))) (run_call3 call68 (show _ = I 0 from rfl) rfl rfl) ?_
 intro w7 hH8
 refine V (aV (I _) rfl) ?_
 refine RL.nil ?_
 refine CW.ret ?_
 refine outP1 Tryd.results57 (congrArg I ?_) hH8.below
 rfl

theorem c_name_Twice_1 (b : Nat) (v : Value) (l : List Tx) (i : Int) (hi : 0 ≤ i ∧ i < l.length) (w : World) (hs : Sl w v 1 l.length (txL l)) (hb : w.heap[b]? = some (.cells #[v] 75 (0, 0))) : Calls Tryd.prog 69 #[I i, .pointer (some ⟨b, 0, none⟩)] w (Pure (B (decide (nfind l (l.getD i.toNat tx0) < i))) w) := by
 have hm := hs.small
 unfold maxLen at hm
 refine enter Tryd.func69 rfl Tryd.ntmps69 rfl ?_
 have hH := Hp.start w
 refine SR ?_
 refine V (aV (B false) rfl) ?_
 refine RL.nil ?_
 refine CW.seq ?_
 refine CW.regionD (by kernel_rfl) hH ?_
 intro w1 hH2
 refine AT 0 rfl (hH2.sub sR) (fun w hS => run_ld underlying75 rfl rfl (hS.extCell hb rfl)) ?_
 refine AT 1 rfl (hH2.sub sR) (fun w hS => mV (I _) rfl) ?_
 refine AT 3 rfl (hH2.sub sR) (fun w hS => run_ld underlying75 rfl rfl (hS.extCell hb rfl)) ?_
 refine AT 4 rfl (hH2.sub sR) (fun w hS => mV (I _) rfl) ?_
 refine AT 5 rfl (hH2.sub sR) (fun w hS => run_indexAddrS (hs.hp hS) underlying75 sizeOf9 rfl rfl (by omega)) ?_
 refine AT 6 rfl (hH2.sub sR) (fun w hS => run_ld underlying9 rfl rfl ((hs.hp hS).cell _ _ (txL_at (by omega)))) ?_
 refine A1 2 ?_
 refine AO.read rfl gnone rfl hH2 sR (run_cut (hs.hp hH2) underlying75 sizeOf9 rfl rfl (by omega)) ?_
 refine A1 7 ?_
 refine AO.callP rfl gnone rfl hH2 sR (c_name_Find _ _ _  _ ((hs.hp hH2).cutT (by omega))) (run_call2 call57 rfl rfl) ?_
 intro w5 hH6
 refine AT 8 rfl (hH6.sub sR) (fun w hS => run_geq rfl rfl) ?_
 refine AT 9 rfl (hH6.sub sR) (fun w hS => aV (B _) rfl) ?_
 refine AD ?_
 refine CW.ret ?_
 refine outP1 Tryd.results69 (congrArg B ?_) hH6.below
 exact tx_ahead hi.1 hi.2

theorem c_name_Twice (v : Value) (l : List Tx) (w : World) (hs : Sl w v 1 l.length (txL l)) : Calls Tryd.prog 39 #[v] w (Pure (I (twice l)) w) := by
 have hm := hs.small
 unfold maxLen at hm
 refine enter Tryd.func39 rfl Tryd.ntmps39 rfl ?_
 have hH := Hp.start w
 refine SR ?_
 refine RL.new rfl hH (f := fun b => (.pointer (some ⟨b, 0, none⟩))) (run_box (by conv => lhs; whnf)) ?_
 intro b3 w1 hH2
 rw [(one_sl hs).2] at hH2
 refine V (aV (I 0) rfl) ?_
 refine RL.nil ?_
 refine SR ?_
 refine V (run_ld underlying75 rfl rfl (hH2.cell (i := 0) rfl rfl)) ?_
 refine V (run_lenSl (hs.hp hH2) rfl underlying75 rfl) ?_
 refine V (run_mkF1 (by conv => lhs; whnf)) ?_
 refine RL.callP rfl hH2 (c_name_place _ 69 [.pointer (some ⟨b3, 0, none⟩)] (fun i => decide (nfind l (l.getD i.toNat tx0) < i)) (by omega) _ call69 (fun i w h h0 h1 => c_name_Twice_1 b3 v l i ⟨h0, h1⟩ w ((hs.hp hH2).below h) (keep h (hH2.blk (i := 0) rfl)))) (run_call3 call68 (show _ = I 0 from rfl) rfl rfl) ?_
 intro w4 hH5
 refine V (aV (I _) rfl) ?_
 refine RL.nil ?_
 refine CW.ret ?_
 refine outP1 Tryd.results39 (congrArg I ?_) hH5.below
 rfl

theorem c_clearanceref02_Same (v u : Value) (l m : List Tx) (w : World) (hs : Sl w v 1 l.length (txL l)) (ht : Sl w u 1 m.length (txL m)) : Calls Tryd.prog 76 #[v, u] w (Pure (B (decide (l = m))) w) := by
 have hm := hs.small
 unfold maxLen at hm
 refine enter Tryd.func76 rfl Tryd.ntmps76 rfl ?_
 have hH := Hp.start w
 refine SR ?_
 refine V (aV (B false) rfl) ?_
 refine RL.nil ?_
 refine CW.seq ?_
 refine SR ?_
 refine V (run_move (by conv => lhs; whnf)) ?_
 refine V (run_lenSl (hs.hp hH) rfl underlying75 rfl) ?_
 refine V (run_move (by conv => lhs; whnf)) ?_
 refine V (run_lenSl (ht.hp hH) rfl underlying75 rfl) ?_
 refine V (run_neq rfl rfl) ?_
 refine RL.nil ?_
 refine CW.condP rfl (fun h2 => ?_) (fun h2 => ?_)
 ·refine SR ?_
  refine V (aV (B false) rfl) ?_
  refine RL.nil ?_
  refine CW.ret ?_
  refine outP1 Tryd.results76 (congrArg B ?_) hH.below
  first | exact (same_no hlm h0 ‹_› ‹_›).symm | exact (same_yes hlm fun j a b => hg j a (by omega)).symm | exact (decide_eq_false fun e => (show ¬ l.length = m.length by omega) (by rw [e])).symm
 ·refine CW.skip ?_
  refine CW.seq ?_
  refine SR ?_
  refine V (aV (I 0) rfl) ?_
  refine RL.nil ?_
  refine CW.block ?_
  have hlm : l.length = m.length := by omega
  refine CW.loop (G := (Int)) (fun (k : Int) s' w' => (Fr [4, 5, 11, 12, 13, 14, 15, 16, 17, 18, 19, 20, 21, 22, 23, 24, 25] _ s') ∧ (Hp w w' _) ∧ (s' 5 = I k) ∧ (0 ≤ k) ∧ (k ≤ l.length) ∧ (∀ j : Int, 0 ≤ j → j < k → l.getD j.toNat tx0 = m.getD j.toNat tx0)) (fun (k : Int) => (l.length - k).toNat) (0) ⟨Fr.refl _ _, hH, rfl, (by omega), (by omega), fun j a b => absurd b (by omega)⟩ ?_
  rintro k sg3 w3 ⟨fr3, hH3, e5_3, h0, hk, hg⟩
  have e0_3 := (fr3 0 rfl).trans (by conv => lhs; whnf)
  have e1_3 := (fr3 1 rfl).trans (by conv => lhs; whnf)
  refine CW.seq ?_
  refine SR ?_
  refine V (run_move e5_3) ?_
  refine V (run_move e0_3) ?_
  refine V (run_lenSl (hs.hp hH3) rfl underlying75 rfl) ?_
  refine V (run_lss rfl rfl) ?_
  refine RL.nil ?_
  refine CW.condP rfl (fun h5 => ?_) (fun h5 => ?_)
  ·refine CW.skip ?_
   refine CW.seq ?_
   refine CW.block ?_
   refine CW.seq ?_
   refine CW.regionD (by kernel_rfl) hH3 ?_
   intro w6 hH7
   refine AT 0 rfl (hH7.sub sR) (fun w hS => run_move e0_3) ?_
   refine AT 1 rfl (hH7.sub sR) (fun w hS => run_move e5_3) ?_
   refine AT 2 rfl (hH7.sub sR) (fun w hS => run_indexAddrS (hs.hp hS) underlying75 sizeOf9 rfl rfl (by omega)) ?_
   refine AT 3 rfl (hH7.sub sR) (fun w hS => run_ld underlying9 rfl rfl ((hs.hp hS).cell _ _ (txL_at (by omega)))) ?_
   refine AT 4 rfl (hH7.sub sR) (fun w hS => run_move e1_3) ?_
   refine AT 5 rfl (hH7.sub sR) (fun w hS => run_move e5_3) ?_
   refine AT 6 rfl (hH7.sub sR) (fun w hS => run_indexAddrS (ht.hp hS) underlying75 sizeOf9 rfl rfl (by omega)) ?_
   refine AT 7 rfl (hH7.sub sR) (fun w hS => run_ld underlying9 rfl rfl ((ht.hp hS).cell _ _ (txL_at (by omega)))) ?_
   refine AT 8 rfl (hH7.sub sR) (fun w hS => run_neqS rfl rfl) ?_
   refine AD ?_
   refine CW.condP rfl (fun h9 => ?_) (fun h9 => ?_)
   ·refine SR ?_
    refine V (aV (B false) rfl) ?_
    refine RL.nil ?_
    refine CW.ret ?_
    refine outP1 Tryd.results76 (congrArg B ?_) hH7.below
    first | exact (same_no hlm h0 ‹_› ‹_›).symm | exact (same_yes hlm fun j a b => hg j a (by omega)).symm | exact (decide_eq_false fun e => (show ¬ l.length = m.length by omega) (by rw [e])).symm
   ·refine CW.skip ?_
    refine CW.region ?_
    refine V (run_move e5_3) ?_
    refine V (run_add rfl rfl (by omega)) ?_
    refine V (aV (I _) rfl) ?_
    refine RL.nil ?_
    refine ⟨k + 1, ?_, fr3.u4.u4.u4.u4, hH7, (congrArg I (by first | rfl | omega)), ?_, ?_, ?_⟩
    ·((try dsimp only); omega)
    ·omega
    ·omega
    ·exact fun j a b => if e : j = k then e ▸ Decidable.of_not_not ‹_› else hg j a (by omega)
  ·refine CW.exit (id := 0) rfl ?_
   refine SR ?_
   refine V (aV (B true) rfl) ?_
   refine RL.nil ?_
   refine CW.ret ?_
   refine outP1 Tryd.results76 (congrArg B ?_) hH3.below
   first | exact (same_no hlm h0 ‹_› ‹_›).symm | exact (same_yes hlm fun j a b => hg j a (by omega)).symm | exact (decide_eq_false fun e => (show ¬ l.length = m.length by omega) (by rw [e])).symm

theorem c_shape_named (v : Value) (l : List Tx) (w : World) (hs : Sl w v 1 l.length (txL l)) : Calls Tryd.prog 78 #[v] w (Pure (B (namedF l)) w) := by
 have hm := hs.small
 unfold maxLen at hm
 refine enter Tryd.func78 rfl Tryd.ntmps78 rfl ?_
 have hH := Hp.start w
 refine SR ?_
 refine V (aV (B false) rfl) ?_
 refine RL.nil ?_
 refine CW.seq ?_
 refine SR ?_
 refine V (run_move (by conv => lhs; whnf)) ?_
 refine V (run_lenSl (hs.hp hH) rfl underlying75 rfl) ?_
 refine V (run_lss rfl rfl) ?_
 refine V (mV (B _) rfl) ?_
 refine RL.splitP (dj := 8) rfl (fun h2 => ?_) (fun h2 => ?_)
 ·refine RL.gF rfl rfl (bT h2) rfl ?_
  refine RL.gF rfl rfl (bT h2) rfl ?_
  refine RL.gF rfl rfl (bT h2) rfl ?_
  refine V (run_pickT (bT h2) (v := B true) rfl) ?_
  refine V (mV (B _) rfl) ?_
  refine RL.gF rfl rfl rfl rfl ?_
  refine RL.gF rfl rfl rfl rfl ?_
  refine RL.gF rfl rfl rfl rfl ?_
  refine V (run_pickT rfl (v := B true) rfl) ?_
  refine RL.nil ?_
  refine CW.condT rfl ?_
  refine SR ?_
  refine V (aV (B false) rfl) ?_
  refine RL.nil ?_
  refine CW.ret ?_
  refine outP1 Tryd.results78 (congrArg B ?_) hH.below
  first | exact (named_no3 h0 ‹_› (nt ‹_›)).symm | exact (named_yes hn1 hn2 ‹_› hg).symm | exact (named_no1 (by omega)).symm | exact (named_no2 (by omega)).symm
 ·refine RL.gT rfl (bF h2) ?_
  refine V (run_move (by conv => lhs; whnf)) ?_
  refine RL.gT rfl (bF h2) ?_
  refine V (run_lenSl (hs.hp hH) rfl underlying75 rfl) ?_
  refine RL.gT rfl (bF h2) ?_
  refine V (run_gtr rfl rfl) ?_
  refine V (run_pickF (bF h2) (v := B _) rfl) ?_
  refine V (mV (B _) rfl) ?_
  refine RL.splitP (dj := 13) rfl (fun h4 => ?_) (fun h4 => ?_)
  ·refine RL.gF rfl rfl (bT h4) rfl ?_
   refine RL.gF rfl rfl (bT h4) rfl ?_
   refine RL.gF rfl rfl (bT h4) rfl ?_
   refine V (run_pickT (bT h4) (v := B true) rfl) ?_
   refine RL.nil ?_
   refine CW.condT rfl ?_
   refine SR ?_
   refine V (aV (B false) rfl) ?_
   refine RL.nil ?_
   refine CW.ret ?_
   refine outP1 Tryd.results78 (congrArg B ?_) hH.below
   first | exact (named_no3 h0 ‹_› (nt ‹_›)).symm | exact (named_yes hn1 hn2 ‹_› hg).symm | exact (named_no1 (by omega)).symm | exact (named_no2 (by omega)).symm
  ·refine RL.gT rfl (bF h4) ?_
   refine V (run_move (by conv => lhs; whnf)) ?_
   refine RL.gT rfl (bF h4) ?_
   refine RL.callP rfl hH (c_name_Twice _ _  _ (hs.hp hH)) (run_call1 call39 rfl) ?_
   intro w5 hH6
   refine RL.gT rfl (bF h4) ?_
   refine V (run_geq rfl rfl) ?_
   refine V (run_pickF (bF h4) (v := B _) rfl) ?_
   refine RL.nil ?_
   refine CW.condP rfl (fun h8 => ?_) (fun h8 => ?_)
   ·refine SR ?_
    refine V (aV (B false) rfl) ?_
    refine RL.nil ?_
    refine CW.ret ?_
    refine outP1 Tryd.results78 (congrArg B ?_) hH6.below
    first | exact (named_no3 h0 ‹_› (nt ‹_›)).symm | exact (named_yes hn1 hn2 ‹_› hg).symm | exact (named_no1 (by omega)).symm | exact (named_no2 (by omega)).symm
   ·refine CW.skip ?_
    refine CW.seq ?_
    refine SR ?_
    refine V (run_move (by conv => lhs; whnf)) ?_
    refine V (run_lenSl (hs.hp hH6) rfl underlying75 rfl) ?_
    refine V (mV (I 0) rfl) ?_
    refine RL.nil ?_
    refine CW.block ?_
    have hn1 : 1 ≤ l.length ∧ l.length ≤ 64 := by omega
    have hn2 : twice l < 0 := by omega
    refine CW.loop (G := (Int)) (fun (k : Int) s' w' => (Fr [2, 4, 20, 21, 22, 23, 24, 25, 26, 27] _ s') ∧ (Hp w w' _) ∧ (s' 20 = I k) ∧ (0 ≤ k) ∧ (k ≤ l.length) ∧ (∀ j : Int, 0 ≤ j → j < k → nameR (l.getD j.toNat tx0) = true)) (fun (k : Int) => (l.length - k).toNat) (0) ⟨Fr.refl _ _, hH6, rfl, (by omega), (by omega), fun j a b => absurd b (by omega)⟩ ?_
    rintro k sg9 w9 ⟨fr9, hH9, e20_9, h0, hk, hg⟩
    have e18_9 := (fr9 18 rfl).trans (by conv => lhs; whnf)
    have e19_9 : sg9 19 = I _ := (fr9 19 rfl).trans rfl
    refine SR ?_
    refine V (run_lss e20_9 e19_9) ?_
    refine RL.nil ?_
    refine CW.seq ?_
    refine CW.condP rfl (fun h11 => ?_) (fun h11 => ?_)
    ·refine CW.skip ?_
     refine CW.seq ?_
     refine CW.block ?_
     refine SR ?_
     refine V (run_indexAddrS (hs.hp hH9) underlying75 sizeOf9 e18_9 e20_9 (by omega)) ?_
     refine V (run_ld underlying9 rfl rfl ((hs.hp hH9).cell _ _ (txL_at (by omega)))) ?_
     refine V (aV (.string _) rfl) ?_
     refine RL.nil ?_
     refine SR ?_
     refine V (mV (.string _) rfl) ?_
     refine RL.callP rfl hH9 (c_name_Right _  _) (run_call1 call38 rfl) ?_
     intro w12 hH13
     refine V (run_not rfl) ?_
     refine RL.nil ?_
     refine CW.cond rfl (fun h16 => ?_) (fun h16 => ?_)
     ·refine SR ?_
      refine V (aV (B false) rfl) ?_
      refine RL.nil ?_
      refine CW.ret ?_
      refine outP1 Tryd.results78 (congrArg B ?_) hH13.below
      first | exact (named_no3 h0 ‹_› (nt ‹_›)).symm | exact (named_yes hn1 hn2 ‹_› hg).symm | exact (named_no1 (by omega)).symm | exact (named_no2 (by omega)).symm
     ·refine CW.skip ?_
      refine CW.region ?_
      refine V (run_add e20_9 rfl (by omega)) ?_
      refine V (mV (I _) rfl) ?_
      refine RL.nil ?_
      refine ⟨k + 1, ?_, fr9.u4.u4.u1, hH13, (congrArg I (by first | rfl | omega)), ?_, ?_, ?_⟩
      ·((try dsimp only); omega)
      ·omega
      ·omega
      ·exact fun j a b => if e : j = k then e ▸ nf ‹_› else hg j a (by omega)
    ·refine CW.exit (id := 0) rfl ?_
     refine SR ?_
     refine V (aV (B true) rfl) ?_
     refine RL.nil ?_
     refine CW.ret ?_
     refine outP1 Tryd.results78 (congrArg B ?_) hH9.below
     first | exact (named_no3 h0 ‹_› (nt ‹_›)).symm | exact (named_yes hn1 hn2 ‹_› hg).symm | exact (named_no1 (by omega)).symm | exact (named_no2 (by omega)).symm

theorem c_shape_factor (f : Fac) (w : World) (hf : FacV (Kw w) f) (hT : Tab w) : Calls Tryd.prog 48 #[.agg (facC f)] w (Pure (B (factorR f.fc)) w) := by
 have hm := hf.names.sl.small
 unfold maxLen at hm
 refine enter Tryd.func48 rfl Tryd.ntmps48 rfl ?_
 have hH := Hp.start w
 refine SR ?_
 refine RL.new rfl hH (f := fun b => (.pointer (some ⟨b, 0, none⟩))) (run_box (v := .agg _) rfl) ?_
 intro b3 w1 hH2
 refine V (aV (B false) rfl) ?_
 refine RL.nil ?_
 refine CW.seq ?_
 refine SR ?_
 refine V (fA underlying84 1 rfl sizeOf75 rfl) ?_
 refine V (run_ld underlying75 rfl rfl (hH2.cell (i := 0) rfl rfl)) ?_
 refine RL.callP rfl hH2 (c_shape_named _ _  _ (hf.names.sl.hp hH2)) (run_call1 call78 rfl) ?_
 intro w4 hH5
 refine V (run_not rfl) ?_
 refine RL.nil ?_
 refine CW.cond rfl (fun h8 => ?_) (fun h8 => ?_)
 ·refine SR ?_
  refine V (aV (B false) rfl) ?_
  refine RL.nil ?_
  refine CW.ret ?_
  refine outP1 Tryd.results48 (congrArg B ?_) hH5.below
  first | exact (fac_no (f := f.fc) (nt ‹_›)).symm | exact (fac_12s (f := f.fc) (nf ‹(!namedF f.names) = false›) (.inl ‹_›)).symm | exact (fac_12s (f := f.fc) (nf ‹(!namedF f.names) = false›) (.inr ‹_›)).symm | exact (fac_3y (f := f.fc) (nf ‹(!namedF f.names) = false›) ‹_› ‹_›).symm | exact (fac_3n (f := f.fc) ‹_› ‹_›).symm | exact (fac_4y (f := f.fc) (nf ‹(!namedF f.names) = false›) ‹_› ‹_›).symm | exact (fac_4n (f := f.fc) ‹_› ‹_›).symm | exact (fac_x (f := f.fc) ‹_› ‹_› ‹_› ‹_›).symm
 ·refine CW.skip ?_
  refine CW.seq ?_
  refine SR ?_
  refine V (fA underlying84 0 rfl sizeOf3 rfl) ?_
  refine V (run_ld underlying3 rfl rfl (hH5.cell (i := 0) rfl (v := I _) rfl)) ?_
  refine RL.nil ?_
  refine CW.block ?_
  refine CW.seq ?_
  refine SR ?_
  refine V (run_eql rfl rfl) ?_
  refine V (aV (B _) rfl) ?_
  refine RL.nil ?_
  refine CW.condP rfl (fun h10 => ?_) (fun h10 => ?_)
  ·refine CW.skip ?_
   refine CW.condT (bT h10) ?_
   refine SR ?_
   refine V (fA underlying84 2 rfl sizeOf73 rfl) ?_
   refine V (run_ldBR underlying73 rfl rfl rfl (hH5.blk (i := 0) rfl)) ?_
   refine V (run_bld (vs := []) rfl built_rel0) ?_
   refine RL.callP rfl hH5 (c_relate_Same _ _  _) (run_call2 call79 rfl rfl) ?_
   intro w11 hH12
   refine V (aV (B _) rfl) ?_
   refine RL.nil ?_
   refine CW.ret ?_
   refine outP1 Tryd.results48 (congrArg B ?_) hH12.below
   first | exact (fac_no (f := f.fc) (nt ‹_›)).symm | exact (fac_12s (f := f.fc) (nf ‹(!namedF f.names) = false›) (.inl ‹_›)).symm | exact (fac_12s (f := f.fc) (nf ‹(!namedF f.names) = false›) (.inr ‹_›)).symm | exact (fac_3y (f := f.fc) (nf ‹(!namedF f.names) = false›) ‹_› ‹_›).symm | exact (fac_3n (f := f.fc) ‹_› ‹_›).symm | exact (fac_4y (f := f.fc) (nf ‹(!namedF f.names) = false›) ‹_› ‹_›).symm | exact (fac_4n (f := f.fc) ‹_› ‹_›).symm | exact (fac_x (f := f.fc) ‹_› ‹_› ‹_› ‹_›).symm
  ·refine CW.region ?_
   refine V (run_eql rfl rfl) ?_
   refine V (aV (B _) rfl) ?_
   refine RL.nil ?_
   refine CW.condP rfl (fun h16 => ?_) (fun h16 => ?_)
   ·refine SR ?_
    refine V (fA underlying84 2 rfl sizeOf73 rfl) ?_
    refine V (run_ldBR underlying73 rfl rfl rfl (hH5.blk (i := 0) rfl)) ?_
    refine V (run_bld (vs := []) rfl built_rel0) ?_
    refine RL.callP rfl hH5 (c_relate_Same _ _  _) (run_call2 call79 rfl rfl) ?_
    intro w17 hH18
    refine V (aV (B _) rfl) ?_
    refine RL.nil ?_
    refine CW.ret ?_
    refine outP1 Tryd.results48 (congrArg B ?_) hH18.below
    first | exact (fac_no (f := f.fc) (nt ‹_›)).symm | exact (fac_12s (f := f.fc) (nf ‹(!namedF f.names) = false›) (.inl ‹_›)).symm | exact (fac_12s (f := f.fc) (nf ‹(!namedF f.names) = false›) (.inr ‹_›)).symm | exact (fac_3y (f := f.fc) (nf ‹(!namedF f.names) = false›) ‹_› ‹_›).symm | exact (fac_3n (f := f.fc) ‹_› ‹_›).symm | exact (fac_4y (f := f.fc) (nf ‹(!namedF f.names) = false›) ‹_› ‹_›).symm | exact (fac_4n (f := f.fc) ‹_› ‹_›).symm | exact (fac_x (f := f.fc) ‹_› ‹_› ‹_› ‹_›).symm
   ·refine SR ?_
    refine V (run_eql rfl rfl) ?_
    refine V (aV (B _) rfl) ?_
    refine RL.nil ?_
    refine CW.condP rfl (fun h22 => ?_) (fun h22 => ?_)
    ·refine SR ?_
     refine V (fA underlying84 2 rfl sizeOf73 rfl) ?_
     refine V (fA underlying73 0 rfl sizeOf3 rfl) ?_
     refine V (run_ld underlying3 rfl rfl (hH5.cell (i := 0) rfl (v := I _) rfl)) ?_
     refine V (fA underlying84 1 rfl sizeOf75 rfl) ?_
     refine V (run_ld underlying75 rfl rfl (hH5.cell (i := 0) rfl rfl)) ?_
     refine V (run_lenSl (hf.names.sl.hp hH5) rfl underlying75 rfl) ?_
     refine V (run_eql rfl rfl) ?_
     refine V (mV (B _) rfl) ?_
     refine RL.splitP (dj := 25) rfl (fun h24 => ?_) (fun h24 => ?_)
     ·refine RL.gT rfl (bT h24) ?_
      refine V (fA underlying84 2 rfl sizeOf73 rfl) ?_
      refine RL.gT rfl (bT h24) ?_
      refine V (run_ldBR underlying73 rfl rfl rfl (hH5.blk (i := 0) rfl)) ?_
      refine RL.gT rfl (bT h24) ?_
      refine RL.callP rfl hH5 (c_grid_Right _  _) (run_call1 call80 rfl) ?_
      intro w25 hH26
      refine V (run_pickT (bT h24) (v := B _) rfl) ?_
      refine V (aV (B _) rfl) ?_
      refine RL.nil ?_
      refine CW.ret ?_
      refine outP1 Tryd.results48 (congrArg B ?_) hH26.below
      first | exact (fac_no (f := f.fc) (nt ‹_›)).symm | exact (fac_12s (f := f.fc) (nf ‹(!namedF f.names) = false›) (.inl ‹_›)).symm | exact (fac_12s (f := f.fc) (nf ‹(!namedF f.names) = false›) (.inr ‹_›)).symm | exact (fac_3y (f := f.fc) (nf ‹(!namedF f.names) = false›) ‹_› ‹_›).symm | exact (fac_3n (f := f.fc) ‹_› ‹_›).symm | exact (fac_4y (f := f.fc) (nf ‹(!namedF f.names) = false›) ‹_› ‹_›).symm | exact (fac_4n (f := f.fc) ‹_› ‹_›).symm | exact (fac_x (f := f.fc) ‹_› ‹_› ‹_› ‹_›).symm
     ·refine RL.gF rfl rfl (bF h24) rfl ?_
      refine RL.gF rfl rfl (bF h24) rfl ?_
      refine RL.gF rfl rfl (bF h24) rfl ?_
      refine V (run_pickF (bF h24) (v := B false) rfl) ?_
      refine V (aV (B _) rfl) ?_
      refine RL.nil ?_
      refine CW.ret ?_
      refine outP1 Tryd.results48 (congrArg B ?_) hH5.below
      first | exact (fac_no (f := f.fc) (nt ‹_›)).symm | exact (fac_12s (f := f.fc) (nf ‹(!namedF f.names) = false›) (.inl ‹_›)).symm | exact (fac_12s (f := f.fc) (nf ‹(!namedF f.names) = false›) (.inr ‹_›)).symm | exact (fac_3y (f := f.fc) (nf ‹(!namedF f.names) = false›) ‹_› ‹_›).symm | exact (fac_3n (f := f.fc) ‹_› ‹_›).symm | exact (fac_4y (f := f.fc) (nf ‹(!namedF f.names) = false›) ‹_› ‹_›).symm | exact (fac_4n (f := f.fc) ‹_› ‹_›).symm | exact (fac_x (f := f.fc) ‹_› ‹_› ‹_› ‹_›).symm
    ·refine SR ?_
     refine V (run_eql rfl rfl) ?_
     refine V (aV (B _) rfl) ?_
     refine RL.nil ?_
     refine CW.condP rfl (fun h29 => ?_) (fun h29 => ?_)
     ·refine SR ?_
      refine V (fA underlying84 2 rfl sizeOf73 rfl) ?_
      refine V (fA underlying73 0 rfl sizeOf3 rfl) ?_
      refine V (run_ld underlying3 rfl rfl (hH5.cell (i := 0) rfl (v := I _) rfl)) ?_
      refine V (fA underlying84 1 rfl sizeOf75 rfl) ?_
      refine V (run_ld underlying75 rfl rfl (hH5.cell (i := 0) rfl rfl)) ?_
      refine V (run_lenSl (hf.names.sl.hp hH5) rfl underlying75 rfl) ?_
      refine V (run_eql rfl rfl) ?_
      refine V (mV (B _) rfl) ?_
      refine RL.splitP (dj := 39) rfl (fun h31 => ?_) (fun h31 => ?_)
      ·refine RL.gT rfl (bT h31) ?_
       refine V (fA underlying84 2 rfl sizeOf73 rfl) ?_
       refine RL.gT rfl (bT h31) ?_
       refine V (run_ldBR underlying73 rfl rfl rfl (hH5.blk (i := 0) rfl)) ?_
       refine RL.gT rfl (bT h31) ?_
       refine RL.callP rfl hH5 (c_hasse_Lattice _  _ (hT.hp hH5)) (run_call1 call59 rfl) ?_
       intro w32 hH33
       refine V (run_pickT (bT h31) (v := B _) rfl) ?_
       refine V (aV (B _) rfl) ?_
       refine RL.nil ?_
       refine CW.ret ?_
       refine outP1 Tryd.results48 (congrArg B ?_) hH33.below
       first | exact (fac_no (f := f.fc) (nt ‹_›)).symm | exact (fac_12s (f := f.fc) (nf ‹(!namedF f.names) = false›) (.inl ‹_›)).symm | exact (fac_12s (f := f.fc) (nf ‹(!namedF f.names) = false›) (.inr ‹_›)).symm | exact (fac_3y (f := f.fc) (nf ‹(!namedF f.names) = false›) ‹_› ‹_›).symm | exact (fac_3n (f := f.fc) ‹_› ‹_›).symm | exact (fac_4y (f := f.fc) (nf ‹(!namedF f.names) = false›) ‹_› ‹_›).symm | exact (fac_4n (f := f.fc) ‹_› ‹_›).symm | exact (fac_x (f := f.fc) ‹_› ‹_› ‹_› ‹_›).symm
      ·refine RL.gF rfl rfl (bF h31) rfl ?_
       refine RL.gF rfl rfl (bF h31) rfl ?_
       refine RL.gF rfl rfl (bF h31) rfl ?_
       refine V (run_pickF (bF h31) (v := B false) rfl) ?_
       refine V (aV (B _) rfl) ?_
       refine RL.nil ?_
       refine CW.ret ?_
       refine outP1 Tryd.results48 (congrArg B ?_) hH5.below
       first | exact (fac_no (f := f.fc) (nt ‹_›)).symm | exact (fac_12s (f := f.fc) (nf ‹(!namedF f.names) = false›) (.inl ‹_›)).symm | exact (fac_12s (f := f.fc) (nf ‹(!namedF f.names) = false›) (.inr ‹_›)).symm | exact (fac_3y (f := f.fc) (nf ‹(!namedF f.names) = false›) ‹_› ‹_›).symm | exact (fac_3n (f := f.fc) ‹_› ‹_›).symm | exact (fac_4y (f := f.fc) (nf ‹(!namedF f.names) = false›) ‹_› ‹_›).symm | exact (fac_4n (f := f.fc) ‹_› ‹_›).symm | exact (fac_x (f := f.fc) ‹_› ‹_› ‹_› ‹_›).symm
     ·refine CW.skip ?_
      refine SR ?_
      refine V (aV (B false) rfl) ?_
      refine RL.nil ?_
      refine CW.ret ?_
      refine outP1 Tryd.results48 (congrArg B ?_) hH5.below
      first | exact (fac_no (f := f.fc) (nt ‹_›)).symm | exact (fac_12s (f := f.fc) (nf ‹(!namedF f.names) = false›) (.inl ‹_›)).symm | exact (fac_12s (f := f.fc) (nf ‹(!namedF f.names) = false›) (.inr ‹_›)).symm | exact (fac_3y (f := f.fc) (nf ‹(!namedF f.names) = false›) ‹_› ‹_›).symm | exact (fac_3n (f := f.fc) ‹_› ‹_›).symm | exact (fac_4y (f := f.fc) (nf ‹(!namedF f.names) = false›) ‹_› ‹_›).symm | exact (fac_4n (f := f.fc) ‹_› ‹_›).symm | exact (fac_x (f := f.fc) ‹_› ‹_› ‹_› ‹_›).symm

theorem c_shape_Right (s : Shp) (w : World) (hs : ShpV (Kw w) s) (hT : Tab w) : Calls Tryd.prog 21 #[.agg (shpC s)] w (Pure (B (shR s.sh)) w) := by
 have hsl := sh_len s
 have hm := hs.facs.sl.small
 unfold maxLen at hm
 refine enter Tryd.func21 rfl Tryd.ntmps21 rfl ?_
 have hH := Hp.start w
 refine SR ?_
 refine RL.new rfl hH (f := fun b => (.pointer (some ⟨b, 0, none⟩))) (run_box (v := .agg _) rfl) ?_
 intro b3 w1 hH2
 refine V (aV (B false) rfl) ?_
 refine RL.nil ?_
 refine SR ?_
 refine V (fA underlying54 1 rfl sizeOf52 rfl) ?_
 refine V (run_ld underlying52 rfl rfl (hH2.cell (i := 0) rfl rfl)) ?_
 refine V (run_lenSl (hs.facs.sl.hp hH2) rfl underlying52 rfl) ?_
 refine V (aV (I _) rfl) ?_
 refine RL.nil ?_
 refine CW.seq ?_
 refine SR ?_
 refine V (mV (I _) rfl) ?_
 refine V (run_lss rfl rfl) ?_
 refine V (mV (B _) rfl) ?_
 refine RL.splitP (dj := 11) rfl (fun h5 => ?_) (fun h5 => ?_)
 ·refine RL.gF rfl rfl (bT h5) rfl ?_
  refine RL.gF rfl rfl (bT h5) rfl ?_
  refine V (run_pickT (bT h5) (v := B true) rfl) ?_
  refine V (mV (B _) rfl) ?_
  refine RL.gF rfl rfl rfl rfl ?_
  refine RL.gF rfl rfl rfl rfl ?_
  refine RL.gF rfl rfl rfl rfl ?_
  refine RL.gF rfl rfl rfl rfl ?_
  refine RL.gU rfl rfl rfl ?_
  refine RL.gU rfl rfl rfl ?_
  refine RL.gF rfl rfl rfl rfl ?_
  refine V (run_pickT rfl (v := B true) rfl) ?_
  refine RL.nil ?_
  refine CW.condT rfl ?_
  refine SR ?_
  refine V (aV (B false) rfl) ?_
  refine RL.nil ?_
  refine CW.ret ?_
  refine outP1 Tryd.results21 (congrArg B ?_) hH2.below
  first | exact (shR_no3 (k := k) h0 (by omega) (by rw [sh_get]; exact nt ‹_›)).symm | exact (shR_yes (k := k) (by omega) hc2 (by omega) fun j a b => by rw [sh_get]; exact hg j a b).symm | exact (shR_no1 (by omega)).symm | exact (shR_no2 (by first | exact nt ‹_› | assumption) (by omega)).symm
 ·refine RL.gT rfl (bF h5) ?_
  refine V (mV (I _) rfl) ?_
  refine RL.gT rfl (bF h5) ?_
  refine V (run_gtr rfl rfl) ?_
  refine V (run_pickF (bF h5) (v := B _) rfl) ?_
  refine V (mV (B _) rfl) ?_
  refine RL.splitP (dj := 15) rfl (fun h7 => ?_) (fun h7 => ?_)
  ·refine RL.gF rfl rfl (bT h7) rfl ?_
   refine RL.gF rfl rfl (bT h7) rfl ?_
   refine RL.gF rfl rfl (bT h7) rfl ?_
   refine RL.gF rfl rfl (bT h7) rfl ?_
   refine RL.gU rfl rfl rfl ?_
   refine RL.gU rfl rfl rfl ?_
   refine RL.gF rfl rfl (bT h7) rfl ?_
   refine V (run_pickT (bT h7) (v := B true) rfl) ?_
   refine RL.nil ?_
   refine CW.condT rfl ?_
   refine SR ?_
   refine V (aV (B false) rfl) ?_
   refine RL.nil ?_
   refine CW.ret ?_
   refine outP1 Tryd.results21 (congrArg B ?_) hH2.below
   first | exact (shR_no3 (k := k) h0 (by omega) (by rw [sh_get]; exact nt ‹_›)).symm | exact (shR_yes (k := k) (by omega) hc2 (by omega) fun j a b => by rw [sh_get]; exact hg j a b).symm | exact (shR_no1 (by omega)).symm | exact (shR_no2 (by first | exact nt ‹_› | assumption) (by omega)).symm
  ·refine RL.gT rfl (bF h7) ?_
   refine V (fA underlying54 0 rfl sizeOf4 rfl) ?_
   refine RL.gT rfl (bF h7) ?_
   refine V (run_ld underlying4 rfl rfl (hH2.cell (i := 0) rfl (v := B _) rfl)) ?_
   refine RL.gT rfl (bF h7) ?_
   refine V (run_not rfl) ?_
   refine RL.gT rfl (bF h7) ?_
   refine V (mV (B _) rfl) ?_
   refine RL.split (dj := 19) rfl (fun h10 => ?_) (fun h10 => ?_)
   ·refine RL.gT rfl (bR (c := true) h10) ?_
    refine V (mV (I _) rfl) ?_
    refine RL.gT rfl (bR (c := true) h10) ?_
    refine V (run_neq rfl rfl) ?_
    refine RL.gT rfl (bF h7) ?_
    refine V (run_pickT (bR (c := true) h10) (v := B _) rfl) ?_
    refine V (run_pickF (bF h7) (v := B _) rfl) ?_
    refine RL.nil ?_
    refine CW.condP rfl (fun h12 => ?_) (fun h12 => ?_)
    ·refine SR ?_
     refine V (aV (B false) rfl) ?_
     refine RL.nil ?_
     refine CW.ret ?_
     refine outP1 Tryd.results21 (congrArg B ?_) hH2.below
     first | exact (shR_no3 (k := k) h0 (by omega) (by rw [sh_get]; exact nt ‹_›)).symm | exact (shR_yes (k := k) (by omega) hc2 (by omega) fun j a b => by rw [sh_get]; exact hg j a b).symm | exact (shR_no1 (by omega)).symm | exact (shR_no2 (by first | exact nt ‹_› | assumption) (by omega)).symm
    ·refine CW.skip ?_
     refine CW.seq ?_
     refine SR ?_
     refine V (fA underlying54 1 rfl sizeOf52 rfl) ?_
     refine V (run_ld underlying52 rfl rfl (hH2.cell (i := 0) rfl rfl)) ?_
     refine V (run_lenSl (hs.facs.sl.hp hH2) rfl underlying52 rfl) ?_
     refine V (mV (I 0) rfl) ?_
     refine RL.nil ?_
     refine CW.block ?_
     have hc2 : s.sh.tuple = true ∨ s.sh.facs.length = 1 := by first | exact .inl (nf ‹(!s.tuple) = false›) | exact .inl ‹s.tuple = true› | exact .inr (by omega)
     have hc1 : 1 ≤ s.facs.length ∧ s.facs.length ≤ 8 := by omega
     refine CW.loop (G := (Int)) (fun (k : Int) s' w' => (Fr [2, 5, 27, 28, 29, 30, 31, 32, 33, 34] _ s') ∧ (Hp w w' _) ∧ (s' 27 = I k) ∧ (0 ≤ k) ∧ (k ≤ s.facs.length) ∧ (∀ j : Int, 0 ≤ j → j < k → factorR (s.facs.getD j.toNat fac0).fc = true)) (fun (k : Int) => (s.facs.length - k).toNat) (0) ⟨Fr.refl _ _, hH2, rfl, (by omega), (by omega), fun j a b => absurd b (by omega)⟩ ?_
     rintro k sg13 w13 ⟨fr13, hH13, e27_13, h0, hk, hg⟩
     have e25_13 := (fr13 25 rfl).trans (by conv => lhs; whnf)
     have e26_13 : sg13 26 = I _ := (fr13 26 rfl).trans rfl
     refine SR ?_
     refine V (run_lss e27_13 e26_13) ?_
     refine RL.nil ?_
     refine CW.seq ?_
     refine CW.condP rfl (fun h15 => ?_) (fun h15 => ?_)
     ·refine CW.skip ?_
      refine CW.seq ?_
      refine CW.block ?_
      refine SR ?_
      refine V (run_indexAddrS (hs.facs.sl.hp hH13) underlying52 sizeOf84 e25_13 e27_13 (by omega)) ?_
      refine V (run_ldE (dv := fac0) facL_len (hs.facs.sl.hp hH13) underlying84 rfl rfl rfl (by omega)) ?_
      refine RL.new rfl hH13 (f := fun b => (.pointer (some ⟨b, 0, none⟩))) (run_alloc zero_fac) ?_
      intro b18 w16 hH17
      refine RL.set hH17 (i := 0) rfl (run_stFac (hs.at (by omega) (by omega)) rfl rfl rfl (hH17.blk (i := 0) rfl)) ?_
      intro w19 hH20
      simp only [z0, z1] at hH20
      refine RL.nil ?_
      refine SR ?_
      refine V (run_ldFac underlying84 rfl rfl rfl (hH20.blk (i := 0) rfl)) ?_
      refine RL.callP rfl hH20 (c_shape_factor _  _ ((hs.at (by omega) (by omega)).mono hH20.kw) (hT.hp hH20)) (run_call1 call48 rfl) ?_
      intro w21 hH22
      refine V (run_not rfl) ?_
      refine RL.nil ?_
      refine CW.cond rfl (fun h25 => ?_) (fun h25 => ?_)
      ·refine SR ?_
       refine V (aV (B false) rfl) ?_
       refine RL.nil ?_
       refine CW.ret ?_
       refine outP1 Tryd.results21 (congrArg B ?_) hH22.below
       first | exact (shR_no3 (k := k) h0 (by omega) (by rw [sh_get]; exact nt ‹_›)).symm | exact (shR_yes (k := k) (by omega) hc2 (by omega) fun j a b => by rw [sh_get]; exact hg j a b).symm | exact (shR_no1 (by omega)).symm | exact (shR_no2 (by first | exact nt ‹_› | assumption) (by omega)).symm
      ·refine CW.skip ?_
       refine CW.region ?_
       refine V (run_add e27_13 rfl (by omega)) ?_
       refine V (mV (I _) rfl) ?_
       refine RL.nil ?_
       refine ⟨k + 1, ?_, fr13.u4.u4.u1, (hH22.sub (sQ sR)), (congrArg I (by first | rfl | omega)), ?_, ?_, ?_⟩
       ·((try dsimp only); omega)
       ·omega
       ·omega
       ·exact fun j a b => if e : j = k then e ▸ nf ‹_› else hg j a (by omega)
     ·refine CW.exit (id := 0) rfl ?_
      refine SR ?_
      refine V (aV (B true) rfl) ?_
      refine RL.nil ?_
      refine CW.ret ?_
      refine outP1 Tryd.results21 (congrArg B ?_) hH13.below
      first | exact (shR_no3 (k := k) h0 (by omega) (by rw [sh_get]; exact nt ‹_›)).symm | exact (shR_yes (k := k) (by omega) hc2 (by omega) fun j a b => by rw [sh_get]; exact hg j a b).symm | exact (shR_no1 (by omega)).symm | exact (shR_no2 (by first | exact nt ‹_› | assumption) (by omega)).symm
   ·refine RL.gF rfl rfl (bR (c := false) h10) rfl ?_
    refine RL.gF rfl rfl (bR (c := false) h10) rfl ?_
    refine RL.gT rfl (bF h7) ?_
    refine V (run_pickF (bR (c := false) h10) (v := B false) rfl) ?_
    refine V (run_pickF (bF h7) (v := B _) rfl) ?_
    refine RL.nil ?_
    refine CW.condF rfl ?_
    refine CW.skip ?_
    refine CW.seq ?_
    refine SR ?_
    refine V (fA underlying54 1 rfl sizeOf52 rfl) ?_
    refine V (run_ld underlying52 rfl rfl (hH2.cell (i := 0) rfl rfl)) ?_
    refine V (run_lenSl (hs.facs.sl.hp hH2) rfl underlying52 rfl) ?_
    refine V (mV (I 0) rfl) ?_
    refine RL.nil ?_
    refine CW.block ?_
    have hc2 : s.sh.tuple = true ∨ s.sh.facs.length = 1 := by first | exact .inl (nf ‹(!s.tuple) = false›) | exact .inl ‹s.tuple = true› | exact .inr (by omega)
    have hc1 : 1 ≤ s.facs.length ∧ s.facs.length ≤ 8 := by omega
    refine CW.loop (G := (Int)) (fun (k : Int) s' w' => (Fr [2, 5, 27, 28, 29, 30, 31, 32, 33, 34] _ s') ∧ (Hp w w' _) ∧ (s' 27 = I k) ∧ (0 ≤ k) ∧ (k ≤ s.facs.length) ∧ (∀ j : Int, 0 ≤ j → j < k → factorR (s.facs.getD j.toNat fac0).fc = true)) (fun (k : Int) => (s.facs.length - k).toNat) (0) ⟨Fr.refl _ _, hH2, rfl, (by omega), (by omega), fun j a b => absurd b (by omega)⟩ ?_
    rintro k sg26 w26 ⟨fr26, hH26, e27_26, h0, hk, hg⟩
    have e25_26 := (fr26 25 rfl).trans (by conv => lhs; whnf)
    have e26_26 : sg26 26 = I _ := (fr26 26 rfl).trans rfl
    refine SR ?_
    refine V (run_lss e27_26 e26_26) ?_
    refine RL.nil ?_
    refine CW.seq ?_
    refine CW.condP rfl (fun h28 => ?_) (fun h28 => ?_)
    ·refine CW.skip ?_
     refine CW.seq ?_
     refine CW.block ?_
     refine SR ?_
     refine V (run_indexAddrS (hs.facs.sl.hp hH26) underlying52 sizeOf84 e25_26 e27_26 (by omega)) ?_
     refine V (run_ldE (dv := fac0) facL_len (hs.facs.sl.hp hH26) underlying84 rfl rfl rfl (by omega)) ?_
     refine RL.new rfl hH26 (f := fun b => (.pointer (some ⟨b, 0, none⟩))) (run_alloc zero_fac) ?_
     intro b31 w29 hH30
     refine RL.set hH30 (i := 0) rfl (run_stFac (hs.at (by omega) (by omega)) rfl rfl rfl (hH30.blk (i := 0) rfl)) ?_
     intro w32 hH33
     simp only [z0, z1] at hH33
     refine RL.nil ?_
     refine SR ?_
     refine V (run_ldFac underlying84 rfl rfl rfl (hH33.blk (i := 0) rfl)) ?_
     refine RL.callP rfl hH33 (c_shape_factor _  _ ((hs.at (by omega) (by omega)).mono hH33.kw) (hT.hp hH33)) (run_call1 call48 rfl) ?_
     intro w34 hH35
     refine V (run_not rfl) ?_
     refine RL.nil ?_
     refine CW.cond rfl (fun h38 => ?_) (fun h38 => ?_)
     ·refine SR ?_
      refine V (aV (B false) rfl) ?_
      refine RL.nil ?_
      refine CW.ret ?_
      refine outP1 Tryd.results21 (congrArg B ?_) hH35.below
      first | exact (shR_no3 (k := k) h0 (by omega) (by rw [sh_get]; exact nt ‹_›)).symm | exact (shR_yes (k := k) (by omega) hc2 (by omega) fun j a b => by rw [sh_get]; exact hg j a b).symm | exact (shR_no1 (by omega)).symm | exact (shR_no2 (by first | exact nt ‹_› | assumption) (by omega)).symm
     ·refine CW.skip ?_
      refine CW.region ?_
      refine V (run_add e27_26 rfl (by omega)) ?_
      refine V (mV (I _) rfl) ?_
      refine RL.nil ?_
      refine ⟨k + 1, ?_, fr26.u4.u4.u1, (hH35.sub (sQ sR)), (congrArg I (by first | rfl | omega)), ?_, ?_, ?_⟩
      ·((try dsimp only); omega)
      ·omega
      ·omega
      ·exact fun j a b => if e : j = k then e ▸ nf ‹_› else hg j a (by omega)
    ·refine CW.exit (id := 0) rfl ?_
     refine SR ?_
     refine V (aV (B true) rfl) ?_
     refine RL.nil ?_
     refine CW.ret ?_
     refine outP1 Tryd.results21 (congrArg B ?_) hH26.below
     first | exact (shR_no3 (k := k) h0 (by omega) (by rw [sh_get]; exact nt ‹_›)).symm | exact (shR_yes (k := k) (by omega) hc2 (by omega) fun j a b => by rw [sh_get]; exact hg j a b).symm | exact (shR_no1 (by omega)).symm | exact (shR_no2 (by first | exact nt ‹_› | assumption) (by omega)).symm

theorem c_clearanceref07_Same (a b : Shp) (w : World) (ha : ShpV (Kw w) a) (hb : ShpV (Kw w) b) : Calls Tryd.prog 47 #[.agg (shpC a), .agg (shpC b)] w (Pure (B (sameS a.sh b.sh)) w) := by
 have hla := sh_len a
 have hlb := sh_len b
 have hm := ha.facs.sl.small
 have hm2 := hb.facs.sl.small
 unfold maxLen at hm hm2
 refine enter Tryd.func47 rfl Tryd.ntmps47 rfl ?_
 have hH := Hp.start w
 refine SR ?_
 refine RL.new rfl hH (f := fun b => (.pointer (some ⟨b, 0, none⟩))) (run_box (v := .agg _) rfl) ?_
 intro b3 w1 hH2
 refine RL.new rfl hH2 (f := fun b => (.pointer (some ⟨b, 0, none⟩))) (run_box (v := .agg _) rfl) ?_
 intro b6 w4 hH5
 refine V (aV (B false) rfl) ?_
 refine RL.nil ?_
 refine CW.seq ?_
 refine SR ?_
 refine V (fA underlying54 0 rfl sizeOf4 rfl) ?_
 refine V (run_ld underlying4 rfl rfl (hH5.cell (i := 1) rfl (v := B _) rfl)) ?_
 refine V (fA underlying54 0 rfl sizeOf4 rfl) ?_
 refine V (run_ld underlying4 rfl rfl (hH5.cell (i := 0) rfl (v := B _) rfl)) ?_
 refine V (run_neqB underlying4 rfl rfl) ?_
 refine V (mV (B _) rfl) ?_
 refine RL.split (dj := 13) rfl (fun h10 => ?_) (fun h10 => ?_)
 ·refine RL.gF rfl rfl (bR (c := true) h10) rfl ?_
  refine RL.gF rfl rfl (bR (c := true) h10) rfl ?_
  refine RL.gF rfl rfl (bR (c := true) h10) rfl ?_
  refine RL.gF rfl rfl (bR (c := true) h10) rfl ?_
  refine RL.gF rfl rfl (bR (c := true) h10) rfl ?_
  refine RL.gF rfl rfl (bR (c := true) h10) rfl ?_
  refine RL.gF rfl rfl (bR (c := true) h10) rfl ?_
  refine V (run_pickT (bR (c := true) h10) (v := B true) rfl) ?_
  refine RL.nil ?_
  refine CW.condT rfl ?_
  refine SR ?_
  refine V (aV (B false) rfl) ?_
  refine RL.nil ?_
  refine CW.ret ?_
  refine outP1 Tryd.results47 (congrArg B ?_) hH5.below
  first | exact (sameS_no3 (k := k) h0 (by omega) (by rw [sh_get, sh_get]; first | exact nt ‹_› | exact alike_no1 (show ¬ (a.facs.getD k.toNat fac0).kind = (b.facs.getD k.toNat fac0).kind from ‹_›) | exact alike_no2 (show ¬ (a.facs.getD k.toNat fac0).names = (b.facs.getD k.toNat fac0).names from ‹_›) | exact alike_no3 (show ¬ (plainR (a.facs.getD k.toNat fac0).rel).eq (plainR (b.facs.getD k.toNat fac0).rel) from ‹_›))).symm | exact (sameS_yes (k := k) htu (by omega) (by omega) fun j u v => by rw [sh_get, sh_get]; exact hg j u v).symm | exact (sameS_no1 (show ¬ a.tuple = b.tuple by simpa using ‹(!(a.tuple == b.tuple)) = true›)).symm | exact (sameS_no2 (by omega)).symm
 ·refine RL.gT rfl (bR (c := false) h10) ?_
  refine V (fA underlying54 1 rfl sizeOf52 rfl) ?_
  refine RL.gT rfl (bR (c := false) h10) ?_
  refine V (run_ld underlying52 rfl rfl (hH5.cell (i := 1) rfl rfl)) ?_
  refine RL.gT rfl (bR (c := false) h10) ?_
  refine V (run_lenSl (ha.facs.sl.hp hH5) rfl underlying52 rfl) ?_
  refine RL.gT rfl (bR (c := false) h10) ?_
  refine V (fA underlying54 1 rfl sizeOf52 rfl) ?_
  refine RL.gT rfl (bR (c := false) h10) ?_
  refine V (run_ld underlying52 rfl rfl (hH5.cell (i := 0) rfl rfl)) ?_
  refine RL.gT rfl (bR (c := false) h10) ?_
  refine V (run_lenSl (hb.facs.sl.hp hH5) rfl underlying52 rfl) ?_
  refine RL.gT rfl (bR (c := false) h10) ?_
  refine V (run_neq rfl rfl) ?_
  refine V (run_pickF (bR (c := false) h10) (v := B _) rfl) ?_
  refine RL.nil ?_
  refine CW.condP rfl (fun h12 => ?_) (fun h12 => ?_)
  ·refine SR ?_
   refine V (aV (B false) rfl) ?_
   refine RL.nil ?_
   refine CW.ret ?_
   refine outP1 Tryd.results47 (congrArg B ?_) hH5.below
   first | exact (sameS_no3 (k := k) h0 (by omega) (by rw [sh_get, sh_get]; first | exact nt ‹_› | exact alike_no1 (show ¬ (a.facs.getD k.toNat fac0).kind = (b.facs.getD k.toNat fac0).kind from ‹_›) | exact alike_no2 (show ¬ (a.facs.getD k.toNat fac0).names = (b.facs.getD k.toNat fac0).names from ‹_›) | exact alike_no3 (show ¬ (plainR (a.facs.getD k.toNat fac0).rel).eq (plainR (b.facs.getD k.toNat fac0).rel) from ‹_›))).symm | exact (sameS_yes (k := k) htu (by omega) (by omega) fun j u v => by rw [sh_get, sh_get]; exact hg j u v).symm | exact (sameS_no1 (show ¬ a.tuple = b.tuple by simpa using ‹(!(a.tuple == b.tuple)) = true›)).symm | exact (sameS_no2 (by omega)).symm
  ·refine CW.skip ?_
   refine CW.seq ?_
   refine SR ?_
   refine V (aV (I 0) rfl) ?_
   refine RL.nil ?_
   refine CW.block ?_
   have hlab : a.facs.length = b.facs.length := by omega
   have htu : a.tuple = b.tuple := by simpa using ‹(!(a.tuple == b.tuple)) = false›
   refine CW.loop (G := (Int)) (fun (k : Int) s' w' => (Fr [4, 5, 6, 7, 22, 23, 24, 25, 26, 27, 28, 29, 30, 31, 32, 33, 34, 35, 36, 37, 38, 39, 40, 41, 42, 43, 44, 45, 46, 47, 48, 49, 50, 51, 52, 53, 54, 55, 56, 57, 58, 59] _ s') ∧ (Hp w w' _) ∧ (s' 5 = I k) ∧ (0 ≤ k) ∧ (k ≤ a.facs.length) ∧ (∀ j : Int, 0 ≤ j → j < k → alikeF (a.facs.getD j.toNat fac0).fc (b.facs.getD j.toNat fac0).fc = true)) (fun (k : Int) => (a.facs.length - k).toNat) (0) ⟨Fr.refl _ _, hH5, rfl, (by omega), (by omega), fun j a b => absurd b (by omega)⟩ ?_
   rintro k sg13 w13 ⟨fr13, hH13, e5_13, h0, hk, hg⟩
   have e2_13 : sg13 2 = Pn _ _ := (fr13 2 rfl).trans rfl
   have e3_13 : sg13 3 = Pn _ _ := (fr13 3 rfl).trans rfl
   refine CW.seq ?_
   refine SR ?_
   refine V (run_move e5_13) ?_
   refine V (fA underlying54 1 rfl sizeOf52 e2_13) ?_
   refine V (run_ld underlying52 rfl rfl (hH13.cell (i := 1) rfl rfl)) ?_
   refine V (run_lenSl (ha.facs.sl.hp hH13) rfl underlying52 rfl) ?_
   refine V (run_lss rfl rfl) ?_
   refine RL.nil ?_
   refine CW.condP rfl (fun h15 => ?_) (fun h15 => ?_)
   ·refine CW.skip ?_
    refine CW.seq ?_
    refine CW.block ?_
    refine CW.seq ?_
    refine CW.regionD (by kernel_rfl) hH13 ?_
    intro w16 hH17
    refine AT 0 rfl (hH17.sub sR) (fun w hS => fA underlying54 1 rfl sizeOf52 e2_13) ?_
    refine AT 1 rfl (hH17.sub sR) (fun w hS => run_ld underlying52 rfl rfl (hS.cell (i := 1) rfl rfl)) ?_
    refine AT 2 rfl (hH17.sub sR) (fun w hS => run_move e5_13) ?_
    refine AT 3 rfl (hH17.sub sR) (fun w hS => run_indexAddrS (ha.facs.sl.hp hS) underlying52 sizeOf84 rfl rfl (by omega)) ?_
    refine AT 4 rfl (hH17.sub sR) (fun w hS => run_ldE (dv := fac0) facL_len (ha.facs.sl.hp hS) underlying84 rfl rfl rfl (by omega)) ?_
    refine AT 5 rfl (hH17.sub sR) (fun w hS => fA underlying54 1 rfl sizeOf52 e3_13) ?_
    refine AT 6 rfl (hH17.sub sR) (fun w hS => run_ld underlying52 rfl rfl (hS.cell (i := 0) rfl rfl)) ?_
    refine AT 7 rfl (hH17.sub sR) (fun w hS => run_move e5_13) ?_
    refine AT 8 rfl (hH17.sub sR) (fun w hS => run_indexAddrS (hb.facs.sl.hp hS) underlying52 sizeOf84 rfl rfl (by omega)) ?_
    refine AT 9 rfl (hH17.sub sR) (fun w hS => run_ldE (dv := fac0) facL_len (hb.facs.sl.hp hS) underlying84 rfl rfl rfl (by omega)) ?_
    refine AN.two 10 11 (by kernel_rfl) ?_ ?_
    ·refine AO.new rfl gnone rfl hH17 sR (f := fun b => .pointer (some ⟨b, 0, none⟩)) (run_alloc zero_fac) ?_
     intro b20 w18 hH19
     refine A1 11 ?_
     refine AO.new rfl gnone rfl hH19 (sQ sR) (f := fun b => .pointer (some ⟨b, 0, none⟩)) (run_alloc zero_fac) ?_
     intro b23 w21 hH22
     refine A1 12 ?_
     refine AO.set rfl gnone hH22 (j := 1) rfl (sQ (sQ sR)) (run_stFac (ha.at (by omega) (by omega)) rfl rfl rfl (hH22.blk (i := 1) rfl)) ?_
     intro w26 hH27
     simp only [z0, z1] at hH27
     refine A1 13 ?_
     refine AO.set rfl gnone hH27 (j := 0) rfl (sQ (sQ sR)) (run_stFac (hb.at (by omega) (by omega)) rfl rfl rfl (hH27.blk (i := 0) rfl)) ?_
     intro w30 hH31
     simp only [z0, z1] at hH31
     refine AD ?_
     refine SR ?_
     refine V (fA underlying84 0 rfl sizeOf3 rfl) ?_
     refine V (run_ld underlying3 rfl rfl (hH31.cell (i := 1) rfl (v := I _) rfl)) ?_
     refine V (fA underlying84 0 rfl sizeOf3 rfl) ?_
     refine V (run_ld underlying3 rfl rfl (hH31.cell (i := 0) rfl (v := I _) rfl)) ?_
     refine V (run_neq rfl rfl) ?_
     refine V (mV (B _) rfl) ?_
     refine RL.splitP (dj := 44) rfl (fun h33 => ?_) (fun h33 => ?_)
     ·refine RL.gF rfl rfl (bT h33) rfl ?_
      refine RL.gF rfl rfl (bT h33) rfl ?_
      refine RL.gF rfl rfl (bT h33) rfl ?_
      refine RL.gF rfl rfl (bT h33) rfl ?_
      refine RL.gF rfl rfl (bT h33) rfl ?_
      refine RL.gF rfl rfl (bT h33) rfl ?_
      refine V (run_pickT (bT h33) (v := B true) rfl) ?_
      refine V (mV (B _) rfl) ?_
      refine RL.gF rfl rfl rfl rfl ?_
      refine RL.gF rfl rfl rfl rfl ?_
      refine RL.gF rfl rfl rfl rfl ?_
      refine RL.gF rfl rfl rfl rfl ?_
      refine RL.gF rfl rfl rfl rfl ?_
      refine RL.gF rfl rfl rfl rfl ?_
      refine V (run_pickT rfl (v := B true) rfl) ?_
      refine RL.nil ?_
      refine CW.condT rfl ?_
      refine SR ?_
      refine V (aV (B false) rfl) ?_
      refine RL.nil ?_
      refine CW.ret ?_
      refine outP1 Tryd.results47 (congrArg B ?_) hH31.below
      first | exact (sameS_no3 (k := k) h0 (by omega) (by rw [sh_get, sh_get]; first | exact nt ‹_› | exact alike_no1 (show ¬ (a.facs.getD k.toNat fac0).kind = (b.facs.getD k.toNat fac0).kind from ‹_›) | exact alike_no2 (show ¬ (a.facs.getD k.toNat fac0).names = (b.facs.getD k.toNat fac0).names from ‹_›) | exact alike_no3 (show ¬ (plainR (a.facs.getD k.toNat fac0).rel).eq (plainR (b.facs.getD k.toNat fac0).rel) from ‹_›))).symm | exact (sameS_yes (k := k) htu (by omega) (by omega) fun j u v => by rw [sh_get, sh_get]; exact hg j u v).symm | exact (sameS_no1 (show ¬ a.tuple = b.tuple by simpa using ‹(!(a.tuple == b.tuple)) = true›)).symm | exact (sameS_no2 (by omega)).symm
     ·refine RL.gT rfl (bF h33) ?_
      refine V (fA underlying84 1 rfl sizeOf75 rfl) ?_
      refine RL.gT rfl (bF h33) ?_
      refine V (run_ld underlying75 rfl rfl (hH31.cell (i := 1) rfl rfl)) ?_
      refine RL.gT rfl (bF h33) ?_
      refine V (fA underlying84 1 rfl sizeOf75 rfl) ?_
      refine RL.gT rfl (bF h33) ?_
      refine V (run_ld underlying75 rfl rfl (hH31.cell (i := 0) rfl rfl)) ?_
      refine RL.gT rfl (bF h33) ?_
      refine RL.callP rfl hH31 (c_clearanceref02_Same _ _ _ _  _ ((ha.at (by omega) (by omega)).names.sl.hp hH31) ((hb.at (by omega) (by omega)).names.sl.hp hH31)) (run_call2 call76 rfl rfl) ?_
      intro w34 hH35
      refine RL.gT rfl (bF h33) ?_
      refine V (run_notP rfl) ?_
      refine V (run_pickF (bF h33) (v := B _) rfl) ?_
      refine V (mV (B _) rfl) ?_
      refine RL.splitP (dj := 52) rfl (fun h39 => ?_) (fun h39 => ?_)
      ·refine RL.gF rfl rfl (bT h39) rfl ?_
       refine RL.gF rfl rfl (bT h39) rfl ?_
       refine RL.gF rfl rfl (bT h39) rfl ?_
       refine RL.gF rfl rfl (bT h39) rfl ?_
       refine RL.gF rfl rfl (bT h39) rfl ?_
       refine RL.gF rfl rfl (bT h39) rfl ?_
       refine V (run_pickT (bT h39) (v := B true) rfl) ?_
       refine RL.nil ?_
       refine CW.condT rfl ?_
       refine SR ?_
       refine V (aV (B false) rfl) ?_
       refine RL.nil ?_
       refine CW.ret ?_
       refine outP1 Tryd.results47 (congrArg B ?_) hH35.below
       first | exact (sameS_no3 (k := k) h0 (by omega) (by rw [sh_get, sh_get]; first | exact nt ‹_› | exact alike_no1 (show ¬ (a.facs.getD k.toNat fac0).kind = (b.facs.getD k.toNat fac0).kind from ‹_›) | exact alike_no2 (show ¬ (a.facs.getD k.toNat fac0).names = (b.facs.getD k.toNat fac0).names from ‹_›) | exact alike_no3 (show ¬ (plainR (a.facs.getD k.toNat fac0).rel).eq (plainR (b.facs.getD k.toNat fac0).rel) from ‹_›))).symm | exact (sameS_yes (k := k) htu (by omega) (by omega) fun j u v => by rw [sh_get, sh_get]; exact hg j u v).symm | exact (sameS_no1 (show ¬ a.tuple = b.tuple by simpa using ‹(!(a.tuple == b.tuple)) = true›)).symm | exact (sameS_no2 (by omega)).symm
      ·refine RL.gT rfl (bF h39) ?_
       refine V (fA underlying84 2 rfl sizeOf73 rfl) ?_
       refine RL.gT rfl (bF h39) ?_
       refine V (run_ldBR underlying73 rfl rfl rfl (hH35.blk (i := 1) rfl)) ?_
       refine RL.gT rfl (bF h39) ?_
       refine V (fA underlying84 2 rfl sizeOf73 rfl) ?_
       refine RL.gT rfl (bF h39) ?_
       refine V (run_ldBR underlying73 rfl rfl rfl (hH35.blk (i := 0) rfl)) ?_
       refine RL.gT rfl (bF h39) ?_
       refine RL.callP rfl hH35 (c_clearanceref03_Same _ _  _) (run_call2 call77 rfl rfl) ?_
       intro w40 hH41
       refine RL.gT rfl (bF h39) ?_
       refine V (run_notP rfl) ?_
       refine V (run_pickF (bF h39) (v := B _) rfl) ?_
       refine RL.nil ?_
       refine CW.condP rfl (fun h45 => ?_) (fun h45 => ?_)
       ·refine SR ?_
        refine V (aV (B false) rfl) ?_
        refine RL.nil ?_
        refine CW.ret ?_
        refine outP1 Tryd.results47 (congrArg B ?_) hH41.below
        first | exact (sameS_no3 (k := k) h0 (by omega) (by rw [sh_get, sh_get]; first | exact nt ‹_› | exact alike_no1 (show ¬ (a.facs.getD k.toNat fac0).kind = (b.facs.getD k.toNat fac0).kind from ‹_›) | exact alike_no2 (show ¬ (a.facs.getD k.toNat fac0).names = (b.facs.getD k.toNat fac0).names from ‹_›) | exact alike_no3 (show ¬ (plainR (a.facs.getD k.toNat fac0).rel).eq (plainR (b.facs.getD k.toNat fac0).rel) from ‹_›))).symm | exact (sameS_yes (k := k) htu (by omega) (by omega) fun j u v => by rw [sh_get, sh_get]; exact hg j u v).symm | exact (sameS_no1 (show ¬ a.tuple = b.tuple by simpa using ‹(!(a.tuple == b.tuple)) = true›)).symm | exact (sameS_no2 (by omega)).symm
       ·refine CW.skip ?_
        refine CW.region ?_
        refine V (run_move e5_13) ?_
        refine V (run_add rfl rfl (by omega)) ?_
        refine V (aV (I _) rfl) ?_
        refine RL.nil ?_
        refine ⟨k + 1, ?_, fr13.u4.u4.u4.u4.u4.u4.u4.u4.u4.u4.u1, (hH41.sub (sQ (sQ sR))), (congrArg I (by first | rfl | omega)), ?_, ?_, ?_⟩
        ·((try dsimp only); omega)
        ·omega
        ·omega
        ·exact fun j u v => if e : j = k then e ▸ (by first | exact nf ‹_› | exact alike_all (a := (a.facs.getD k.toNat fac0).fc) (b := (b.facs.getD k.toNat fac0).fc) (show (a.facs.getD k.toNat fac0).kind = (b.facs.getD k.toNat fac0).kind by omega) (Decidable.of_not_not ‹¬ ¬ (a.facs.getD k.toNat fac0).names = (b.facs.getD k.toNat fac0).names›) (Decidable.of_not_not ‹¬ ¬ (plainR _).eq (plainR _)›)) else hg j u (by omega)
    ·refine AO.new rfl gnone rfl hH17 sR (f := fun b => .pointer (some ⟨b, 0, none⟩)) (run_alloc zero_fac) ?_
     intro b48 w46 hH47
     refine A1 10 ?_
     refine AO.new rfl gnone rfl hH47 (sQ sR) (f := fun b => .pointer (some ⟨b, 0, none⟩)) (run_alloc zero_fac) ?_
     intro b51 w49 hH50
     refine A1 12 ?_
     refine AO.set rfl gnone hH50 (j := 0) rfl (sQ (sQ sR)) (run_stFac (ha.at (by omega) (by omega)) rfl rfl rfl (hH50.blk (i := 0) rfl)) ?_
     intro w54 hH55
     simp only [z0, z1] at hH55
     refine A1 13 ?_
     refine AO.set rfl gnone hH55 (j := 1) rfl (sQ (sQ sR)) (run_stFac (hb.at (by omega) (by omega)) rfl rfl rfl (hH55.blk (i := 1) rfl)) ?_
     intro w58 hH59
     simp only [z0, z1] at hH59
     refine AD ?_
     refine SR ?_
     refine V (fA underlying84 0 rfl sizeOf3 rfl) ?_
     refine V (run_ld underlying3 rfl rfl (hH59.cell (i := 0) rfl (v := I _) rfl)) ?_
     refine V (fA underlying84 0 rfl sizeOf3 rfl) ?_
     refine V (run_ld underlying3 rfl rfl (hH59.cell (i := 1) rfl (v := I _) rfl)) ?_
     refine V (run_neq rfl rfl) ?_
     refine V (mV (B _) rfl) ?_
     refine RL.splitP (dj := 44) rfl (fun h61 => ?_) (fun h61 => ?_)
     ·refine RL.gF rfl rfl (bT h61) rfl ?_
      refine RL.gF rfl rfl (bT h61) rfl ?_
      refine RL.gF rfl rfl (bT h61) rfl ?_
      refine RL.gF rfl rfl (bT h61) rfl ?_
      refine RL.gF rfl rfl (bT h61) rfl ?_
      refine RL.gF rfl rfl (bT h61) rfl ?_
      refine V (run_pickT (bT h61) (v := B true) rfl) ?_
      refine V (mV (B _) rfl) ?_
      refine RL.gF rfl rfl rfl rfl ?_
      refine RL.gF rfl rfl rfl rfl ?_
      refine RL.gF rfl rfl rfl rfl ?_
      refine RL.gF rfl rfl rfl rfl ?_
      refine RL.gF rfl rfl rfl rfl ?_
      refine RL.gF rfl rfl rfl rfl ?_
      refine V (run_pickT rfl (v := B true) rfl) ?_
      refine RL.nil ?_
      refine CW.condT rfl ?_
      refine SR ?_
      refine V (aV (B false) rfl) ?_
      refine RL.nil ?_
      refine CW.ret ?_
      refine outP1 Tryd.results47 (congrArg B ?_) hH59.below
      first | exact (sameS_no3 (k := k) h0 (by omega) (by rw [sh_get, sh_get]; first | exact nt ‹_› | exact alike_no1 (show ¬ (a.facs.getD k.toNat fac0).kind = (b.facs.getD k.toNat fac0).kind from ‹_›) | exact alike_no2 (show ¬ (a.facs.getD k.toNat fac0).names = (b.facs.getD k.toNat fac0).names from ‹_›) | exact alike_no3 (show ¬ (plainR (a.facs.getD k.toNat fac0).rel).eq (plainR (b.facs.getD k.toNat fac0).rel) from ‹_›))).symm | exact (sameS_yes (k := k) htu (by omega) (by omega) fun j u v => by rw [sh_get, sh_get]; exact hg j u v).symm | exact (sameS_no1 (show ¬ a.tuple = b.tuple by simpa using ‹(!(a.tuple == b.tuple)) = true›)).symm | exact (sameS_no2 (by omega)).symm
     ·refine RL.gT rfl (bF h61) ?_
      refine V (fA underlying84 1 rfl sizeOf75 rfl) ?_
      refine RL.gT rfl (bF h61) ?_
      refine V (run_ld underlying75 rfl rfl (hH59.cell (i := 0) rfl rfl)) ?_
      refine RL.gT rfl (bF h61) ?_
      refine V (fA underlying84 1 rfl sizeOf75 rfl) ?_
      refine RL.gT rfl (bF h61) ?_
      refine V (run_ld underlying75 rfl rfl (hH59.cell (i := 1) rfl rfl)) ?_
      refine RL.gT rfl (bF h61) ?_
      refine RL.callP rfl hH59 (c_clearanceref02_Same _ _ _ _  _ ((ha.at (by omega) (by omega)).names.sl.hp hH59) ((hb.at (by omega) (by omega)).names.sl.hp hH59)) (run_call2 call76 rfl rfl) ?_
      intro w62 hH63
      refine RL.gT rfl (bF h61) ?_
      refine V (run_notP rfl) ?_
      refine V (run_pickF (bF h61) (v := B _) rfl) ?_
      refine V (mV (B _) rfl) ?_
      refine RL.splitP (dj := 52) rfl (fun h67 => ?_) (fun h67 => ?_)
      ·refine RL.gF rfl rfl (bT h67) rfl ?_
       refine RL.gF rfl rfl (bT h67) rfl ?_
       refine RL.gF rfl rfl (bT h67) rfl ?_
       refine RL.gF rfl rfl (bT h67) rfl ?_
       refine RL.gF rfl rfl (bT h67) rfl ?_
       refine RL.gF rfl rfl (bT h67) rfl ?_
       refine V (run_pickT (bT h67) (v := B true) rfl) ?_
       refine RL.nil ?_
       refine CW.condT rfl ?_
       refine SR ?_
       refine V (aV (B false) rfl) ?_
       refine RL.nil ?_
       refine CW.ret ?_
       refine outP1 Tryd.results47 (congrArg B ?_) hH63.below
       first | exact (sameS_no3 (k := k) h0 (by omega) (by rw [sh_get, sh_get]; first | exact nt ‹_› | exact alike_no1 (show ¬ (a.facs.getD k.toNat fac0).kind = (b.facs.getD k.toNat fac0).kind from ‹_›) | exact alike_no2 (show ¬ (a.facs.getD k.toNat fac0).names = (b.facs.getD k.toNat fac0).names from ‹_›) | exact alike_no3 (show ¬ (plainR (a.facs.getD k.toNat fac0).rel).eq (plainR (b.facs.getD k.toNat fac0).rel) from ‹_›))).symm | exact (sameS_yes (k := k) htu (by omega) (by omega) fun j u v => by rw [sh_get, sh_get]; exact hg j u v).symm | exact (sameS_no1 (show ¬ a.tuple = b.tuple by simpa using ‹(!(a.tuple == b.tuple)) = true›)).symm | exact (sameS_no2 (by omega)).symm
      ·refine RL.gT rfl (bF h67) ?_
       refine V (fA underlying84 2 rfl sizeOf73 rfl) ?_
       refine RL.gT rfl (bF h67) ?_
       refine V (run_ldBR underlying73 rfl rfl rfl (hH63.blk (i := 0) rfl)) ?_
       refine RL.gT rfl (bF h67) ?_
       refine V (fA underlying84 2 rfl sizeOf73 rfl) ?_
       refine RL.gT rfl (bF h67) ?_
       refine V (run_ldBR underlying73 rfl rfl rfl (hH63.blk (i := 1) rfl)) ?_
       refine RL.gT rfl (bF h67) ?_
       refine RL.callP rfl hH63 (c_clearanceref03_Same _ _  _) (run_call2 call77 rfl rfl) ?_
       intro w68 hH69
       refine RL.gT rfl (bF h67) ?_
       refine V (run_notP rfl) ?_
       refine V (run_pickF (bF h67) (v := B _) rfl) ?_
       refine RL.nil ?_
       refine CW.condP rfl (fun h73 => ?_) (fun h73 => ?_)
       ·refine SR ?_
        refine V (aV (B false) rfl) ?_
        refine RL.nil ?_
        refine CW.ret ?_
        refine outP1 Tryd.results47 (congrArg B ?_) hH69.below
        first | exact (sameS_no3 (k := k) h0 (by omega) (by rw [sh_get, sh_get]; first | exact nt ‹_› | exact alike_no1 (show ¬ (a.facs.getD k.toNat fac0).kind = (b.facs.getD k.toNat fac0).kind from ‹_›) | exact alike_no2 (show ¬ (a.facs.getD k.toNat fac0).names = (b.facs.getD k.toNat fac0).names from ‹_›) | exact alike_no3 (show ¬ (plainR (a.facs.getD k.toNat fac0).rel).eq (plainR (b.facs.getD k.toNat fac0).rel) from ‹_›))).symm | exact (sameS_yes (k := k) htu (by omega) (by omega) fun j u v => by rw [sh_get, sh_get]; exact hg j u v).symm | exact (sameS_no1 (show ¬ a.tuple = b.tuple by simpa using ‹(!(a.tuple == b.tuple)) = true›)).symm | exact (sameS_no2 (by omega)).symm
       ·refine CW.skip ?_
        refine CW.region ?_
        refine V (run_move e5_13) ?_
        refine V (run_add rfl rfl (by omega)) ?_
        refine V (aV (I _) rfl) ?_
        refine RL.nil ?_
        refine ⟨k + 1, ?_, fr13.u4.u4.u4.u4.u4.u4.u4.u4.u4.u4.u1, (hH69.sub (sQ (sQ sR))), (congrArg I (by first | rfl | omega)), ?_, ?_, ?_⟩
        ·((try dsimp only); omega)
        ·omega
        ·omega
        ·exact fun j u v => if e : j = k then e ▸ (by first | exact nf ‹_› | exact alike_all (a := (a.facs.getD k.toNat fac0).fc) (b := (b.facs.getD k.toNat fac0).fc) (show (a.facs.getD k.toNat fac0).kind = (b.facs.getD k.toNat fac0).kind by omega) (Decidable.of_not_not ‹¬ ¬ (a.facs.getD k.toNat fac0).names = (b.facs.getD k.toNat fac0).names›) (Decidable.of_not_not ‹¬ ¬ (plainR _).eq (plainR _)›)) else hg j u (by omega)
   ·refine CW.exit (id := 0) rfl ?_
    refine SR ?_
    refine V (aV (B true) rfl) ?_
    refine RL.nil ?_
    refine CW.ret ?_
    refine outP1 Tryd.results47 (congrArg B ?_) hH13.below
    first | exact (sameS_no3 (k := k) h0 (by omega) (by rw [sh_get, sh_get]; first | exact nt ‹_› | exact alike_no1 (show ¬ (a.facs.getD k.toNat fac0).kind = (b.facs.getD k.toNat fac0).kind from ‹_›) | exact alike_no2 (show ¬ (a.facs.getD k.toNat fac0).names = (b.facs.getD k.toNat fac0).names from ‹_›) | exact alike_no3 (show ¬ (plainR (a.facs.getD k.toNat fac0).rel).eq (plainR (b.facs.getD k.toNat fac0).rel) from ‹_›))).symm | exact (sameS_yes (k := k) htu (by omega) (by omega) fun j u v => by rw [sh_get, sh_get]; exact hg j u v).symm | exact (sameS_no1 (show ¬ a.tuple = b.tuple by simpa using ‹(!(a.tuple == b.tuple)) = true›)).symm | exact (sameS_no2 (by omega)).symm

theorem c_clearancelaw07_Big (s : Shp) (w : World) (hs : ShpV (Kw w) s) : Calls Tryd.prog 24 #[.agg (shpC s)] w (Pure (B (bigS s.sh)) w) := by
 have hsl := sh_len s
 have hm := hs.facs.sl.small
 unfold maxLen at hm
 refine enter Tryd.func24 rfl Tryd.ntmps24 rfl ?_
 have hH := Hp.start w
 refine SR ?_
 refine RL.new rfl hH (f := fun b => (.pointer (some ⟨b, 0, none⟩))) (run_box (v := .agg _) rfl) ?_
 intro b3 w1 hH2
 refine V (aV (B false) rfl) ?_
 refine RL.nil ?_
 refine CW.seq ?_
 refine SR ?_
 refine V (fA underlying54 1 rfl sizeOf52 rfl) ?_
 refine V (run_ld underlying52 rfl rfl (hH2.cell (i := 0) rfl rfl)) ?_
 refine V (run_lenSl (hs.facs.sl.hp hH2) rfl underlying52 rfl) ?_
 refine V (run_gtr rfl rfl) ?_
 refine RL.nil ?_
 refine CW.condP rfl (fun h5 => ?_) (fun h5 => ?_)
 ·refine SR ?_
  refine V (aV (B true) rfl) ?_
  refine RL.nil ?_
  refine CW.ret ?_
  refine outP1 Tryd.results24 (congrArg B ?_) hH2.below
  first | exact (big_1 (s := s.sh) (by omega)).symm | exact (big_2 (s := s.sh) (k := k) h0 (by omega) (by rw [sh_get]; first | exact bigN_1 (by show 70 < (s.facs.getD k.toNat fac0).names.length; omega) | exact bigN_2 i0 ‹_› (by show 40 < ((s.facs.getD k.toNat fac0).names.getD i.toNat tx0).size; omega))).symm | exact (big_no (s := s.sh) (k := k) (by omega) (by omega) fun j a b => by rw [sh_get]; exact hg j a b).symm
 ·refine CW.skip ?_
  refine CW.seq ?_
  refine SR ?_
  refine V (aV (I 0) rfl) ?_
  refine RL.nil ?_
  refine CW.block ?_
  refine CW.loop (G := (Int)) (fun (k : Int) s' w' => (Fr [2, 3, 4, 5, 10, 11, 12, 13, 14, 15, 16, 17, 18, 19, 20, 21, 22, 23, 24, 25, 26, 27, 28, 29, 30, 31, 32, 33, 34, 35, 36, 37, 38, 39] _ s') ∧ (Hp w w' _) ∧ (s' 3 = I k) ∧ (0 ≤ k) ∧ (k ≤ s.facs.length) ∧ (∀ j : Int, 0 ≤ j → j < k → bigN (s.facs.getD j.toNat fac0).names = false)) (fun (k : Int) => (s.facs.length - k).toNat) (0) ⟨Fr.refl _ _, hH2, rfl, (by omega), (by omega), fun j a b => absurd b (by omega)⟩ ?_
  rintro k sg6 w6 ⟨fr6, hH6, e3_6, h0, hk, hg⟩
  have e1_6 : sg6 1 = Pn _ _ := (fr6 1 rfl).trans rfl
  refine CW.seq ?_
  refine SR ?_
  refine V (run_move e3_6) ?_
  refine V (fA underlying54 1 rfl sizeOf52 e1_6) ?_
  refine V (run_ld underlying52 rfl rfl (hH6.cell (i := 0) rfl rfl)) ?_
  refine V (run_lenSl (hs.facs.sl.hp hH6) rfl underlying52 rfl) ?_
  refine V (run_lss rfl rfl) ?_
  refine RL.nil ?_
  refine CW.condP rfl (fun h8 => ?_) (fun h8 => ?_)
  ·refine CW.skip ?_
   refine CW.seq ?_
   refine CW.block ?_
   refine SR ?_
   refine V (fA underlying54 1 rfl sizeOf52 e1_6) ?_
   refine V (run_ld underlying52 rfl rfl (hH6.cell (i := 0) rfl rfl)) ?_
   refine V (run_move e3_6) ?_
   refine V (run_indexAddrS (hs.facs.sl.hp hH6) underlying52 sizeOf84 rfl rfl (by omega)) ?_
   refine V (run_ldE (dv := fac0) facL_len (hs.facs.sl.hp hH6) underlying84 rfl rfl rfl (by omega)) ?_
   refine RL.new rfl hH6 (f := fun b => (.pointer (some ⟨b, 0, none⟩))) (run_alloc zero_fac) ?_
   intro b11 w9 hH10
   refine RL.set hH10 (i := 0) rfl (run_stFac (hs.at (by omega) (by omega)) rfl rfl rfl (hH10.blk (i := 0) rfl)) ?_
   intro w12 hH13
   simp only [z0, z1] at hH13
   refine RL.nil ?_
   refine CW.seq ?_
   refine SR ?_
   refine V (fA underlying84 1 rfl sizeOf75 rfl) ?_
   refine V (run_ld underlying75 rfl rfl (hH13.cell (i := 0) rfl rfl)) ?_
   refine V (run_lenSl ((hs.at (by omega) (by omega)).names.sl.hp hH13) rfl underlying75 rfl) ?_
   refine V (run_gtr rfl rfl) ?_
   refine RL.nil ?_
   refine CW.condP rfl (fun h15 => ?_) (fun h15 => ?_)
   ·refine SR ?_
    refine V (aV (B true) rfl) ?_
    refine RL.nil ?_
    refine CW.ret ?_
    refine outP1 Tryd.results24 (congrArg B ?_) hH13.below
    first | exact (big_1 (s := s.sh) (by omega)).symm | exact (big_2 (s := s.sh) (k := k) h0 (by omega) (by rw [sh_get]; first | exact bigN_1 (by show 70 < (s.facs.getD k.toNat fac0).names.length; omega) | exact bigN_2 i0 ‹_› (by show 40 < ((s.facs.getD k.toNat fac0).names.getD i.toNat tx0).size; omega))).symm | exact (big_no (s := s.sh) (k := k) (by omega) (by omega) fun j a b => by rw [sh_get]; exact hg j a b).symm
   ·refine CW.skip ?_
    refine SR ?_
    refine V (aV (I 0) rfl) ?_
    refine RL.nil ?_
    refine CW.block ?_
    have hnb : (s.facs.getD k.toNat fac0).names.length ≤ 70 := by omega
    refine CW.loop (G := (Int)) (fun (i : Int) s' w' => (Fr [2, 5, 26, 27, 28, 29, 30, 31, 32, 33, 34, 35, 36, 37, 38, 39] _ s') ∧ (Hp w w' _) ∧ (s' 5 = I i) ∧ (0 ≤ i) ∧ (i ≤ (s.facs.getD k.toNat fac0).names.length) ∧ (∀ j : Int, 0 ≤ j → j < i → ¬ 40 < ((s.facs.getD k.toNat fac0).names.getD j.toNat tx0).size)) (fun (i : Int) => ((s.facs.getD k.toNat fac0).names.length - i).toNat) (0) ⟨Fr.refl _ _, hH13, rfl, (by omega), (by omega), fun j a b => absurd b (by omega)⟩ ?_
    rintro i sg16 w16 ⟨fr16, hH16, e5_16, i0, i1, hn⟩
    have e1_16 := (fr16 1 rfl).trans e1_6
    have e3_16 := (fr16 3 rfl).trans e3_6
    have e4_16 : sg16 4 = Pn _ _ := (fr16 4 rfl).trans rfl
    have e10_16 : sg16 10 = I _ := (fr16 10 rfl).trans rfl
    have e11_16 : sg16 11 = Pn _ _ := (fr16 11 rfl).trans rfl
    have e12_16 := (fr16 12 rfl).trans (by conv => lhs; whnf)
    have e13_16 : sg16 13 = I _ := (fr16 13 rfl).trans rfl
    have e14_16 : sg16 14 = B _ := (fr16 14 rfl).trans rfl
    have e17_16 : sg16 17 = Pn _ _ := (fr16 17 rfl).trans rfl
    have e18_16 := (fr16 18 rfl).trans (by conv => lhs; whnf)
    have e19_16 : sg16 19 = I _ := (fr16 19 rfl).trans rfl
    have e20_16 : sg16 20 = Pn _ _ := (fr16 20 rfl).trans rfl
    have e21_16 : sg16 21 = .agg _ := (fr16 21 rfl).trans rfl
    have e22_16 : sg16 22 = Pn _ _ := (fr16 22 rfl).trans rfl
    have e23_16 := (fr16 23 rfl).trans (by conv => lhs; whnf)
    have e24_16 : sg16 24 = I _ := (fr16 24 rfl).trans rfl
    have e25_16 : sg16 25 = B _ := (fr16 25 rfl).trans rfl
    refine CW.seq ?_
    refine SR ?_
    refine V (run_move e5_16) ?_
    refine V (fA underlying84 1 rfl sizeOf75 e4_16) ?_
    refine V (run_ld underlying75 rfl rfl (hH16.cell (i := 0) rfl rfl)) ?_
    refine V (run_lenSl ((hs.at (by omega) (by omega)).names.sl.hp hH16) rfl underlying75 rfl) ?_
    refine V (run_lss rfl rfl) ?_
    refine RL.nil ?_
    refine CW.condP rfl (fun h18 => ?_) (fun h18 => ?_)
    ·refine CW.skip ?_
     refine CW.seq ?_
     refine CW.block ?_
     refine SR ?_
     refine V (fA underlying84 1 rfl sizeOf75 e4_16) ?_
     refine V (run_ld underlying75 rfl rfl (hH16.cell (i := 0) rfl rfl)) ?_
     refine V (run_move e5_16) ?_
     refine V (run_indexAddrS ((hs.at (by omega) (by omega)).names.sl.hp hH16) underlying75 sizeOf9 rfl rfl (by omega)) ?_
     refine V (run_ld underlying9 rfl rfl (((hs.at (by omega) (by omega)).names.sl.hp hH16).cell _ _ (txL_at (by omega)))) ?_
     refine V (run_lenStr rfl underlying9 rfl) ?_
     refine V (run_gtr rfl rfl) ?_
     refine RL.nil ?_
     refine CW.condP rfl (fun h20 => ?_) (fun h20 => ?_)
     ·refine SR ?_
      refine V (aV (B true) rfl) ?_
      refine RL.nil ?_
      refine CW.ret ?_
      refine outP1 Tryd.results24 (congrArg B ?_) hH16.below
      first | exact (big_1 (s := s.sh) (by omega)).symm | exact (big_2 (s := s.sh) (k := k) h0 (by omega) (by rw [sh_get]; first | exact bigN_1 (by show 70 < (s.facs.getD k.toNat fac0).names.length; omega) | exact bigN_2 i0 ‹_› (by show 40 < ((s.facs.getD k.toNat fac0).names.getD i.toNat tx0).size; omega))).symm | exact (big_no (s := s.sh) (k := k) (by omega) (by omega) fun j a b => by rw [sh_get]; exact hg j a b).symm
     ·refine CW.skip ?_
      refine CW.region ?_
      refine V (run_move e5_16) ?_
      refine V (run_add rfl rfl (by omega)) ?_
      refine V (aV (I _) rfl) ?_
      refine RL.nil ?_
      refine ⟨i + 1, ?_, fr16.u4.u4.u4.u1.u1.u1, hH16, (congrArg I (by first | rfl | omega)), ?_, ?_, ?_⟩
      ·((try dsimp only); omega)
      ·omega
      ·omega
      ·exact fun j a b => if e : j = i then e ▸ (by omega) else hn j a (by omega)
    ·refine CW.exit (id := 2) rfl ?_
     refine CW.region ?_
     refine V (run_move e3_16) ?_
     refine V (run_add rfl rfl (by omega)) ?_
     refine V (aV (I _) rfl) ?_
     refine RL.nil ?_
     refine ⟨k + 1, ?_, (((fr6.u4.u4.u4.u4).t fr16 rfl)).u4.u4, (hH16.sub (sQ sR)), (congrArg I (by first | rfl | omega)), ?_, ?_, ?_⟩
     ·((try dsimp only); omega)
     ·omega
     ·omega
     ·exact fun j a b => if e : j = k then e ▸ bigN_no (by omega) ‹¬ i < _› hn else hg j a (by omega)
  ·refine CW.exit (id := 0) rfl ?_
   refine SR ?_
   refine V (aV (B false) rfl) ?_
   refine RL.nil ?_
   refine CW.ret ?_
   refine outP1 Tryd.results24 (congrArg B ?_) hH6.below
   first | exact (big_1 (s := s.sh) (by omega)).symm | exact (big_2 (s := s.sh) (k := k) h0 (by omega) (by rw [sh_get]; first | exact bigN_1 (by show 70 < (s.facs.getD k.toNat fac0).names.length; omega) | exact bigN_2 i0 ‹_› (by show 40 < ((s.facs.getD k.toNat fac0).names.getD i.toNat tx0).size; omega))).symm | exact (big_no (s := s.sh) (k := k) (by omega) (by omega) fun j a b => by rw [sh_get]; exact hg j a b).symm

theorem c_shape_clone (K : Vu) (f : Fac) (hn : f.names.length ≤ 1000) (w : World) (hK : Le K (Kw w)) (hf : FacV K f) : Calls Tryd.prog 85 #[.agg (facC f)] w (PureF K (fun K' u => ∃ f' : Fac, u = .agg (facC f') ∧ f'.fc = f.fc ∧ FacV K' f') w) := by
 refine enter Tryd.func85 rfl Tryd.ntmps85 rfl ?_
 have hH := Hp.start w
 refine SR ?_
 refine RL.new rfl hH (f := fun b => (.pointer (some ⟨b, 0, none⟩))) (run_box (v := .agg _) rfl) ?_
 intro b3 w1 hH2
 refine RL.new rfl hH2 (f := fun b => (.pointer (some ⟨b, 0, none⟩))) (run_alloc zero_fac) ?_
 intro b6 w4 hH5
 refine RL.nil ?_
 refine SR ?_
 refine RL.new rfl hH5 (f := fun b => (.slice (some ⟨b, 0, none⟩) 0 0)) (run_mkE underlying75 sizeOf9) ?_
 intro b9 w7 hH8
 (try simp only [List.flatMap_cons, List.flatMap_nil, clI, clB, clS, clP, clL, clA, List.append_nil, List.cons_append, List.nil_append] at hH8)
 have hH10 := hH8.blkRow 0 1 rfl (by decide)
 refine V (fA underlying84 1 rfl sizeOf75 rfl) ?_
 refine V (run_ld underlying75 rfl rfl (hH10.cell (i := 2) rfl rfl)) ?_
 refine RL.app rfl hH10 (i := 0) rfl ((hf.mono hK).names.sl.hp hH10) rfl rfl underlying75 rfl rfl (size := 1) (bytes := 16) rfl rfl rfl (by decide) (by simp [Value.oneCell']) (by omega) (by simp only [maxLen]; omega) ?_
 intro v11 w12 hH13
 simp only [z0, z1] at hH13
 refine V (fA underlying84 1 rfl sizeOf75 rfl) ?_
 have hone := (row_cells (hH13.get (i := 0) rfl)).2
 refine RL.set hH13 (i := 2) rfl (run_stFac1 rfl rfl rfl (row_cells (hH13.get (i := 0) rfl)).1 hone (hH13.blk (i := 2) rfl)) ?_
 intro w14 hH15
 simp only [z0, z1] at hH15
 refine RL.nil ?_
 refine SR ?_
 refine V (run_ldFac underlying84 rfl rfl rfl (hH15.blk (i := 2) rfl)) ?_
 refine RL.set hH15 (i := 1) rfl (run_stFacO (facC_one2 hf hone) rfl rfl rfl (hH15.blk (i := 1) rfl)) ?_
 intro w16 hH17
 simp only [z0, z1] at hH17
 refine RL.nil ?_
 refine CW.ret ?_
 obtain ⟨Zc, hz, hzv, -⟩ := hH17.frz K
 refine outCg Tryd.results85 rfl hH17 (i := 1) rfl underlying84 rfl (by simp only [List.size_toArray, facL_len]; rfl) ⟨Zc, hz.sub (List.sublist_append_left _ _), _, rfl, rfl, ⟨?_⟩⟩
 simpa using hzv

theorem c_shape_One (K : Vu) (f : Fac) (hn : f.names.length ≤ 1000) (w : World) (hK : Le K (Kw w)) (hf : FacV K f) : Calls Tryd.prog 53 #[.agg (facC f)] w (PureF K (fun K' u => ∃ p : Shp, u = .agg (shpC p) ∧ p.sh = ⟨false, [f.fc]⟩ ∧ ShpV K' p) w) := by
 refine enter Tryd.func53 rfl Tryd.ntmps53 rfl ?_
 have hH := Hp.start w
 refine SR ?_
 refine RL.new rfl hH (f := fun b => (.pointer (some ⟨b, 0, none⟩))) (run_box (v := .agg _) rfl) ?_
 intro b3 w1 hH2
 refine RL.new rfl hH2 (f := fun b => (.pointer (some ⟨b, 0, none⟩))) (run_alloc Tryd.zeroValue54) ?_
 intro b6 w4 hH5
 refine RL.nil ?_
 refine SR ?_
 refine V (run_ldFac underlying84 rfl rfl rfl (hH5.blk (i := 1) rfl)) ?_
 refine RL.callF rfl hH5 (c_shape_clone K f hn _ (hK.trans hH5.kw) hf) (run_call1 call85 rfl) ?_
 intro v9 w10 Z12 hH11 hp13
 have hH14 : Hp _ w10 (_ :: _ :: Z12) := hH11.zin0 (L := [_, _])
 obtain ⟨f15, rfl, hfc16, hfv17⟩ := hp13
 refine RL.new rfl hH14 (f := fun b => (.slice (some ⟨b, 0, none⟩) 1 1)) (run_mkFacs underlying52 rfl rfl rfl (l := [_]) rfl (by decide) (by decide) rfl) ?_
 intro b20 w18 hH19
 refine V (run_bld (vs := [(1, _)]) rfl (built_shp1 rfl)) ?_
 refine RL.set hH19 (i := 1) rfl (run_stW (c' := #[B false, .slice (some ⟨b20, 0, none⟩) 1 1]) rfl rfl rfl (by simp [Value.oneCell']) (hH19.blk (i := 1) rfl) rfl) ?_
 intro w21 hH22
 simp only [z0, z1] at hH22
 refine RL.nil ?_
 refine CW.ret ?_
 refine outCg Tryd.results53 rfl hH22 (i := 1) rfl underlying54 rfl rfl ⟨_, hH22.sub (sP (sQ (sQ (.refl _)))), ⟨false, .slice (some ⟨b20, 0, none⟩) 1 1, [f15]⟩, rfl, by simp [Shp.sh, hfc16], ?_, ?_⟩
 ·exact slv_blk (c := [f15].flatMap facL) (List.mem_cons_self ..) (flat_length facL_len _) (by simp [maxLen])
 ·intro x hx; simp at hx; subst hx; exact hfv17.mono (Le.zz fun y hy => mT (by simpa using hy))

theorem c_shape_Product (K : Vu) (v : Value) (l : List Shp) (hl : l.length ≤ 1000) (hfn : ∀ s ∈ l, s.facs.length ≤ 1000) (hnn : ∀ s ∈ l, ∀ f ∈ s.facs, f.names.length ≤ 1000) (w : World) (hK : Le K (Kw w)) (hs : Sl w v 2 l.length (l.flatMap shpL)) (hv : ShpsV K l) : Calls Tryd.prog 84 #[v] w (PureF K (fun K' u => ∃ p : Shp, u = .agg (shpC p) ∧ p.sh = ⟨true, prodF l⟩ ∧ ShpV K' p) w) := by
 refine enter Tryd.func84 rfl Tryd.ntmps84 rfl ?_
 have hH := Hp.start w
 refine SR ?_
 refine RL.new rfl hH (f := fun b => (.pointer (some ⟨b, 0, none⟩))) (run_alloc Tryd.zeroValue54) ?_
 intro b3 w1 hH2
 refine RL.nil ?_
 refine SR ?_
 refine V (run_bld (vs := [(0, B true)]) rfl built_shp0) ?_
 refine RL.new rfl hH2 (f := fun b => (.pointer (some ⟨b, 0, none⟩))) (run_alloc Tryd.zeroValue54) ?_
 intro b6 w4 hH5
 refine RL.set hH5 (i := 0) rfl (run_stW (c' := #[B true, .slice none 0 0]) rfl rfl rfl (by simp [Value.oneCell']) (hH5.blk (i := 0) rfl) rfl) ?_
 intro w7 hH8
 simp only [z0, z1] at hH8
 have hH9 := hH8.nilRow 84 67
 refine RL.nil ?_
 refine CW.seq ?_
 refine SR ?_
 refine V (run_move (by conv => lhs; whnf)) ?_
 refine V (run_lenSl (hs.hp hH9) rfl underlying112 rfl) ?_
 refine V (mV (I 0) rfl) ?_
 refine RL.nil ?_
 refine CW.block ?_
 refine CW.loop (G := (Int) × (Value) × (List Fac) × (List Ent)) (fun (⟨k, fv0, fs, Z⟩ : (Int) × (Value) × (List Fac) × (List Ent)) s' w' => (Fr [5, 7, 11, 12, 13, 14, 15, 16, 17, 18, 19, 20, 21, 22, 23, 24, 25, 26, 27, 28, 29, 30] _ s') ∧ (Hp w w' (.row fv0 84 67 (fs.length) (fs.flatMap facL) :: .blk b6 (.cells (#[B true, fv0]) 54 (0, 0)) :: _ :: Z)) ∧ (s' 11 = I k) ∧ (0 ≤ k) ∧ (k ≤ l.length) ∧ (fs.map Fac.fc = prodF (l.take k.toNat)) ∧ (FacsV (Kz K Z) fs) ∧ ((fs.length : Int) ≤ 1000 * k)) (fun (⟨k, fv0, fs, Z⟩ : (Int) × (Value) × (List Fac) × (List Ent)) => (l.length - k).toNat) ((0, (.slice none 0 0 : Value), [], [])) ⟨Fr.refl _ _, hH9, rfl, (by omega), (by omega), rfl, FacsV.nil _, (by simp)⟩ ?_
 rintro ⟨k, fv0, fs, Z⟩ sg10 w10 ⟨fr10, hH10, e11_10, h0, hk, hm, hF, hb⟩
 have e2_10 : sg10 2 = Pn _ _ := (fr10 2 rfl).trans rfl
 have e3_10 : sg10 3 = Pn _ _ := (fr10 3 rfl).trans rfl
 have e9_10 := (fr10 9 rfl).trans (by conv => lhs; whnf)
 have e10_10 : sg10 10 = I _ := (fr10 10 rfl).trans rfl
 refine SR ?_
 refine V (run_lss e11_10 e10_10) ?_
 refine RL.nil ?_
 refine CW.seq ?_
 refine CW.condP rfl (fun h12 => ?_) (fun h12 => ?_)
 ·refine CW.skip ?_
  refine CW.seq ?_
  refine CW.block ?_
  refine SR ?_
  refine V (run_indexAddrS (hs.hp hH10) underlying112 sizeOf54 e9_10 e11_10 (by omega)) ?_
  refine V (run_ldE (dv := shp0) shpL_len (hs.hp hH10) underlying54 rfl rfl rfl (by omega)) ?_
  refine RL.new rfl hH10 (f := fun b => (.pointer (some ⟨b, 0, none⟩))) (run_alloc Tryd.zeroValue54) ?_
  intro b15 w13 hH14
  refine RL.set hH14 (i := 0) rfl (run_stShp ((hv.mono hK).at (by omega) (by omega)) rfl rfl rfl (hH14.blk (i := 0) rfl) rfl) ?_
  intro w16 hH17
  simp only [z0, z1] at hH17
  refine RL.nil ?_
  refine SR ?_
  refine V (fA underlying54 1 rfl sizeOf52 rfl) ?_
  refine V (run_ld underlying52 rfl rfl (hH17.cell (i := 0) rfl rfl)) ?_
  refine V (run_lenSl (((hv.mono hK).at (by omega) (by omega)).facs.sl.hp hH17) rfl underlying52 rfl) ?_
  refine V (mV (I 0) rfl) ?_
  refine RL.nil ?_
  refine CW.block ?_
  have hfk := hfn _ (List.mem_of_getElem? (getD_at (d := shp0) h0 ‹k < l.length›))
  refine CW.loop (G := (Int) × (Value) × (List Fac) × (List Ent)) (fun (⟨i, fv1, gs, Z1⟩ : (Int) × (Value) × (List Fac) × (List Ent)) s' w' => (Fr [7, 18, 19, 20, 21, 22, 23, 24, 25, 26, 27, 28, 29] _ s') ∧ (Hp w w' (_ :: .row fv1 84 67 (gs.length) (gs.flatMap facL) :: .blk b6 (.cells (#[B true, fv1]) 54 (0, 0)) :: _ :: Z1)) ∧ (s' 18 = I i) ∧ (0 ≤ i) ∧ (i ≤ (l.getD k.toNat shp0).facs.length) ∧ (gs.map Fac.fc = fs.map Fac.fc ++ ((l.getD k.toNat shp0).facs.take i.toNat).map Fac.fc) ∧ (FacsV (Kz K Z1) gs) ∧ ((gs.length : Int) = fs.length + i)) (fun (⟨i, fv1, gs, Z1⟩ : (Int) × (Value) × (List Fac) × (List Ent)) => ((l.getD k.toNat shp0).facs.length - i).toNat) ((0, (fv0 : Value), fs, Z)) ⟨Fr.refl _ _, hH17, rfl, (by omega), (by omega), (by simp), hF, (by simp)⟩ ?_
  rintro ⟨i, fv1, gs, Z1⟩ sg18 w18 ⟨fr18, hH18, e18_18, i0, ik, hm1, hF1, hb1⟩
  have e2_18 := (fr18 2 rfl).trans e2_10
  have e3_18 := (fr18 3 rfl).trans e3_10
  have e5_18 : sg18 5 = Pn _ _ := (fr18 5 rfl).trans rfl
  have e9_18 := (fr18 9 rfl).trans e9_10
  have e10_18 := (fr18 10 rfl).trans e10_10
  have e11_18 := (fr18 11 rfl).trans e11_10
  have e12_18 := (fr18 12 rfl).trans (by conv => lhs; whnf)
  have e13_18 : sg18 13 = Pn _ _ := (fr18 13 rfl).trans rfl
  have e14_18 : sg18 14 = .agg _ := (fr18 14 rfl).trans rfl
  have e15_18 : sg18 15 = Pn _ _ := (fr18 15 rfl).trans rfl
  have e16_18 := (fr18 16 rfl).trans (by conv => lhs; whnf)
  have e17_18 : sg18 17 = I _ := (fr18 17 rfl).trans rfl
  refine SR ?_
  refine V (run_lss e18_18 e17_18) ?_
  refine RL.nil ?_
  refine CW.seq ?_
  refine CW.condP rfl (fun h20 => ?_) (fun h20 => ?_)
  ·refine CW.skip ?_
   refine CW.seq ?_
   refine CW.block ?_
   refine SR ?_
   refine V (run_indexAddrS (((hv.mono hK).at (by omega) (by omega)).facs.sl.hp hH18) underlying52 sizeOf84 e16_18 e18_18 (by omega)) ?_
   refine V (run_ldE (dv := fac0) facL_len (((hv.mono hK).at (by omega) (by omega)).facs.sl.hp hH18) underlying84 rfl rfl rfl (by omega)) ?_
   refine RL.new rfl hH18 (f := fun b => (.pointer (some ⟨b, 0, none⟩))) (run_alloc zero_fac) ?_
   intro b23 w21 hH22
   refine RL.set hH22 (i := 0) rfl (run_stFac (((hv.mono hK).at (by omega) (by omega)).at (by omega) (by omega)) rfl rfl rfl (hH22.blk (i := 0) rfl)) ?_
   intro w24 hH25
   simp only [z0, z1] at hH25
   refine RL.nil ?_
   refine CW.regionS (by kernel_rfl) hH25 (sP (sP (sQ (sQ sR)))) ?_
   intro w26 hH27
   refine AT 0 rfl (hH27.sub (sP (sP (sQ (sQ sR))))) (fun w hS => fA underlying54 1 rfl sizeOf52 e3_18) ?_
   refine AT 2 rfl (hH27.sub (sP (sP (sQ (sQ sR))))) (fun w hS => run_ldFac underlying84 rfl rfl rfl (hS.blk (i := 0) rfl)) ?_
   refine AN.two 1 3 (by kernel_rfl) ?_ ?_
   ·refine AO.read rfl gnone rfl hH27 (sP (sP (sQ (sQ sR)))) (run_ld underlying52 rfl rfl (hH27.cell (i := 3) rfl rfl)) ?_
    refine A1 3 ?_
    refine AO.callF rfl gnone rfl hH27 (sP (sP (sQ (sQ sR)))) (c_shape_clone K ((l.getD k.toNat shp0).facs.getD i.toNat fac0) (hnn _ (List.mem_of_getElem? (getD_at (d := shp0) h0 ‹k < l.length›)) _ (List.mem_of_getElem? (getD_at (d := fac0) i0 ‹_›))) _ (hK.trans hH27.kw) ((hv.at h0 ‹_›).at i0 ‹_›)) (run_call1 call85 rfl) ?_
    intro v32 w33 Z35 hH34 hp36
    have hH37 : Hp _ w33 (_ :: _ :: _ :: _ :: _ :: (Z35 ++ Z1)) := hH34.zin (L := [_, _, _, _, _]) (L' := Z1)
    obtain ⟨f38, rfl, hfc39, hfv40⟩ := hp36
    refine A1 4 ?_
    refine AO.new rfl gnone rfl hH37 (sP (sP (sQ (sQ (sP (sA sR)))))) (f := fun b => .slice (some ⟨b, 0, none⟩) 1 1) (run_mkFacs underlying52 rfl rfl rfl (l := [_]) rfl (by decide) (by decide) rfl) ?_
    intro b43 w41 hH42
    refine A1 5 ?_
    refine AO.app rfl gnone rfl hH42 (j := 3) rfl (fun _ => (sQ (sP (sP (sQ (sQ (sP (sA sR)))))))) (Hp.slFlat facL_len hH42 (i := 0) (l := [_]) rfl (by simp [maxLen])) rfl rfl underlying52 rfl rfl (size := 67) (bytes := 552) rfl rfl rfl (by decide) (fac1_one hfv40) (by show (gs.length + 1) * _ ≤ _; omega) (by show gs.length + 1 ≤ _; simp only [maxLen]; omega) ?_
    intro v46 w44 hH45
    simp only [z0, z1] at hH45
    refine AT 6 rfl (hH45.sub (sQ (sP (sP (sQ (sQ (sP (sA sR)))))))) (fun w hS => fA underlying54 1 rfl sizeOf52 e3_18) ?_
    refine A1 7 ?_
    refine AO.set rfl gnone hH45 (j := 4) rfl (sQ (sP (sP (sQ (sQ (sP (sA sR))))))) (run_st rfl rfl (v := v46) rfl (row_cells (hH45.get (i := 3) rfl)).1 (row_cells (hH45.get (i := 3) rfl)).2 (hH45.blk (i := 4) rfl) (by simp)) ?_
    intro w49 hH50
    simp only [z0, z1] at hH50
    refine AD ?_
    refine CW.region ?_
    refine V (run_add e18_18 rfl (by omega)) ?_
    refine V (mV (I _) rfl) ?_
    refine RL.nil ?_
    refine ⟨(i + 1, v46, (gs ++ [f38]), (Z35 ++ Z1)), ?_, fr18.u4.u4.u4.u1, (Hp.conv (hH50.sub (sQ (sQ sR))) (by first | rfl | simp)), (congrArg I (by first | rfl | omega)), ?_, ?_, ?_, ?_, ?_⟩
    ·((try dsimp only); omega)
    ·omega
    ·omega
    ·rw [facs_next i0 ‹_›, List.map_append, hm1, List.append_assoc]; simp only [List.map_cons, List.map_nil]; rw [hfc39]
    ·exact (hF1.mono (Le.zz fun y hy => List.mem_append_right _ hy)).snoc (hfv40.mono (Le.zz fun y hy => List.mem_append_left _ hy))
    ·simp only [List.length_append, List.length_singleton]; omega
   ·refine AO.callF rfl gnone rfl hH27 (sP (sP (sQ (sQ sR)))) (c_shape_clone K ((l.getD k.toNat shp0).facs.getD i.toNat fac0) (hnn _ (List.mem_of_getElem? (getD_at (d := shp0) h0 ‹k < l.length›)) _ (List.mem_of_getElem? (getD_at (d := fac0) i0 ‹_›))) _ (hK.trans hH27.kw) ((hv.at h0 ‹_›).at i0 ‹_›)) (run_call1 call85 rfl) ?_
    intro v53 w54 Z56 hH55 hp57
    have hH58 : Hp _ w54 (_ :: _ :: _ :: _ :: _ :: (Z56 ++ Z1)) := hH55.zin (L := [_, _, _, _, _]) (L' := Z1)
    obtain ⟨f59, rfl, hfc60, hfv61⟩ := hp57
    refine AN.two 1 4 (by kernel_rfl) ?_ ?_
    ·refine AO.read rfl gnone rfl hH58 (sP (sP (sQ (sQ (sP (sA sR)))))) (run_ld underlying52 rfl rfl (hH58.cell (i := 3) rfl rfl)) ?_
     refine A1 4 ?_
     refine AO.new rfl gnone rfl hH58 (sP (sP (sQ (sQ (sP (sA sR)))))) (f := fun b => .slice (some ⟨b, 0, none⟩) 1 1) (run_mkFacs underlying52 rfl rfl rfl (l := [_]) rfl (by decide) (by decide) rfl) ?_
     intro b66 w64 hH65
     refine A1 5 ?_
     refine AO.app rfl gnone rfl hH65 (j := 3) rfl (fun _ => (sQ (sP (sP (sQ (sQ (sP (sA sR)))))))) (Hp.slFlat facL_len hH65 (i := 0) (l := [_]) rfl (by simp [maxLen])) rfl rfl underlying52 rfl rfl (size := 67) (bytes := 552) rfl rfl rfl (by decide) (fac1_one hfv61) (by show (gs.length + 1) * _ ≤ _; omega) (by show gs.length + 1 ≤ _; simp only [maxLen]; omega) ?_
     intro v69 w67 hH68
     simp only [z0, z1] at hH68
     refine AT 6 rfl (hH68.sub (sQ (sP (sP (sQ (sQ (sP (sA sR)))))))) (fun w hS => fA underlying54 1 rfl sizeOf52 e3_18) ?_
     refine A1 7 ?_
     refine AO.set rfl gnone hH68 (j := 4) rfl (sQ (sP (sP (sQ (sQ (sP (sA sR))))))) (run_st rfl rfl (v := v69) rfl (row_cells (hH68.get (i := 3) rfl)).1 (row_cells (hH68.get (i := 3) rfl)).2 (hH68.blk (i := 4) rfl) (by simp)) ?_
     intro w72 hH73
     simp only [z0, z1] at hH73
     refine AD ?_
     refine CW.region ?_
     refine V (run_add e18_18 rfl (by omega)) ?_
     refine V (mV (I _) rfl) ?_
     refine RL.nil ?_
     refine ⟨(i + 1, v69, (gs ++ [f59]), (Z56 ++ Z1)), ?_, fr18.u4.u4.u4.u1, (Hp.conv (hH73.sub (sQ (sQ sR))) (by first | rfl | simp)), (congrArg I (by first | rfl | omega)), ?_, ?_, ?_, ?_, ?_⟩
     ·((try dsimp only); omega)
     ·omega
     ·omega
     ·rw [facs_next i0 ‹_›, List.map_append, hm1, List.append_assoc]; simp only [List.map_cons, List.map_nil]; rw [hfc60]
     ·exact (hF1.mono (Le.zz fun y hy => List.mem_append_right _ hy)).snoc (hfv61.mono (Le.zz fun y hy => List.mem_append_left _ hy))
     ·simp only [List.length_append, List.length_singleton]; omega
    ·refine AO.new rfl gnone rfl hH58 (sP (sP (sQ (sQ (sP (sA sR)))))) (f := fun b => .slice (some ⟨b, 0, none⟩) 1 1) (run_mkFacs underlying52 rfl rfl rfl (l := [_]) rfl (by decide) (by decide) rfl) ?_
     intro b76 w74 hH75
     refine A1 1 ?_
     refine AO.read rfl gnone rfl hH75 (sQ (sP (sP (sQ (sQ (sP (sA sR))))))) (run_ld underlying52 rfl rfl (hH75.cell (i := 4) rfl rfl)) ?_
     refine A1 5 ?_
     refine AO.app rfl gnone rfl hH75 (j := 3) rfl (fun _ => (sQ (sP (sP (sQ (sQ (sP (sA sR)))))))) (Hp.slFlat facL_len hH75 (i := 0) (l := [_]) rfl (by simp [maxLen])) rfl rfl underlying52 rfl rfl (size := 67) (bytes := 552) rfl rfl rfl (by decide) (fac1_one hfv61) (by show (gs.length + 1) * _ ≤ _; omega) (by show gs.length + 1 ≤ _; simp only [maxLen]; omega) ?_
     intro v81 w79 hH80
     simp only [z0, z1] at hH80
     refine AT 6 rfl (hH80.sub (sQ (sP (sP (sQ (sQ (sP (sA sR)))))))) (fun w hS => fA underlying54 1 rfl sizeOf52 e3_18) ?_
     refine A1 7 ?_
     refine AO.set rfl gnone hH80 (j := 4) rfl (sQ (sP (sP (sQ (sQ (sP (sA sR))))))) (run_st rfl rfl (v := v81) rfl (row_cells (hH80.get (i := 3) rfl)).1 (row_cells (hH80.get (i := 3) rfl)).2 (hH80.blk (i := 4) rfl) (by simp)) ?_
     intro w84 hH85
     simp only [z0, z1] at hH85
     refine AD ?_
     refine CW.region ?_
     refine V (run_add e18_18 rfl (by omega)) ?_
     refine V (mV (I _) rfl) ?_
     refine RL.nil ?_
     refine ⟨(i + 1, v81, (gs ++ [f59]), (Z56 ++ Z1)), ?_, fr18.u4.u4.u4.u1, (Hp.conv (hH85.sub (sQ (sQ sR))) (by first | rfl | simp)), (congrArg I (by first | rfl | omega)), ?_, ?_, ?_, ?_, ?_⟩
     ·((try dsimp only); omega)
     ·omega
     ·omega
     ·rw [facs_next i0 ‹_›, List.map_append, hm1, List.append_assoc]; simp only [List.map_cons, List.map_nil]; rw [hfc60]
     ·exact (hF1.mono (Le.zz fun y hy => List.mem_append_right _ hy)).snoc (hfv61.mono (Le.zz fun y hy => List.mem_append_left _ hy))
     ·simp only [List.length_append, List.length_singleton]; omega
  ·refine CW.exit (id := 2) rfl ?_
   refine CW.region ?_
   refine V (run_add e11_18 rfl (by omega)) ?_
   refine V (mV (I _) rfl) ?_
   refine RL.nil ?_
   refine ⟨(k + 1, fv1, gs, Z1), ?_, (((fr10.u4.u4).t fr18 rfl)).u1.u1.u1, (Hp.conv (hH18.sub (sQ sR)) (by first | rfl | simp)), (congrArg I (by first | rfl | omega)), ?_, ?_, ?_, ?_, ?_⟩
   ·((try dsimp only); omega)
   ·omega
   ·omega
   ·rw [prod_next h0 ‹_›, ← hm, hm1, List.take_of_length_le (by omega)]; rfl
   ·exact hF1
   ·omega
 ·refine CW.exit (id := 0) rfl ?_
  refine SR ?_
  refine V (run_ldA (cs := [B _, _]) underlying54 rfl rfl e3_10 (rangeAt_cells (hH10.blk (i := 1) rfl))) ?_
  refine RL.set hH10 (i := 2) rfl (run_stW (c' := #[B true, fv0]) rfl e2_10 rfl (one_two (row_cells (hH10.get (i := 0) rfl)).2) (hH10.blk (i := 2) rfl) rfl) ?_
  intro w86 hH87
  simp only [z0, z1] at hH87
  refine RL.nil ?_
  refine CW.ret ?_
  obtain ⟨Zr, hz, hzv, -⟩ := hH87.frz K
  refine outCg (i := Zr.length + 1) Tryd.results84 e2_10 hz (app_get (i := 1) rfl) underlying54 rfl rfl ⟨Zr ++ Z, hz.sub (List.Sublist.append (.refl _) (sQ (sQ (.refl _)))), ⟨true, fv0, fs⟩, rfl, ?_, ?_, ?_⟩
  ·rw [Shp.sh, hm, prod_all ‹_›]
  ·exact hzv.mono (Le.zz fun y hy => List.mem_append_left _ hy)
  ·exact (hF.mono (Le.zz fun y hy => List.mem_append_right _ hy)).each

theorem c_scope_lattice (n : Int) (w : World) : Calls Tryd.prog 27 #[I n] w (Pure (B (decide (1 ≤ n ∧ n ≤ 5))) w) := by
 refine enter Tryd.func27 rfl Tryd.ntmps27 rfl ?_
 have hH := Hp.start w
 refine SR ?_
 refine V (aV (B false) rfl) ?_
 refine RL.nil ?_
 refine SR ?_
 refine V (mV (I _) rfl) ?_
 refine V (run_geq rfl rfl) ?_
 refine V (mV (B _) rfl) ?_
 refine RL.splitP (dj := 5) rfl (fun h2 => ?_) (fun h2 => ?_)
 ·refine RL.gT rfl (bT h2) ?_
  refine V (mV (I _) rfl) ?_
  refine RL.gT rfl (bT h2) ?_
  refine V (run_leq rfl rfl) ?_
  refine V (run_pickT (bT h2) (v := B _) rfl) ?_
  refine V (aV (B _) rfl) ?_
  refine RL.nil ?_
  refine CW.ret ?_
  refine outP1 Tryd.results27 (congrArg B ?_) hH.below
  (rw [Bool.eq_iff_iff]; simp only [decide_eq_true_eq, Bool.false_eq_true, false_iff]; omega)
 ·refine RL.gF rfl rfl (bF h2) rfl ?_
  refine RL.gF rfl rfl (bF h2) rfl ?_
  refine V (run_pickF (bF h2) (v := B false) rfl) ?_
  refine V (aV (B _) rfl) ?_
  refine RL.nil ?_
  refine CW.ret ?_
  refine outP1 Tryd.results27 (congrArg B ?_) hH.below
  (rw [Bool.eq_iff_iff]; simp only [decide_eq_true_eq, Bool.false_eq_true, false_iff]; omega)

theorem c_scope_variables (n : Int) (w : World) : Calls Tryd.prog 28 #[I n] w (Pure (B (decide (n = 6 ∨ n = 7))) w) := by
 refine enter Tryd.func28 rfl Tryd.ntmps28 rfl ?_
 have hH := Hp.start w
 refine SR ?_
 refine V (aV (B false) rfl) ?_
 refine RL.nil ?_
 refine SR ?_
 refine V (mV (I _) rfl) ?_
 refine V (run_eql rfl rfl) ?_
 refine V (mV (B _) rfl) ?_
 refine RL.splitP (dj := 5) rfl (fun h2 => ?_) (fun h2 => ?_)
 ·refine RL.gF rfl rfl (bT h2) rfl ?_
  refine RL.gF rfl rfl (bT h2) rfl ?_
  refine V (run_pickT (bT h2) (v := B true) rfl) ?_
  refine V (aV (B _) rfl) ?_
  refine RL.nil ?_
  refine CW.ret ?_
  refine outP1 Tryd.results28 (congrArg B ?_) hH.below
  (rw [Bool.eq_iff_iff]; simp only [decide_eq_true_eq, true_iff]; omega)
 ·refine RL.gT rfl (bF h2) ?_
  refine V (mV (I _) rfl) ?_
  refine RL.gT rfl (bF h2) ?_
  refine V (run_eql rfl rfl) ?_
  refine V (run_pickF (bF h2) (v := B _) rfl) ?_
  refine V (aV (B _) rfl) ?_
  refine RL.nil ?_
  refine CW.ret ?_
  refine outP1 Tryd.results28 (congrArg B ?_) hH.below
  (rw [Bool.eq_iff_iff]; simp only [decide_eq_true_eq, true_iff]; omega)

theorem c_scope_Find (s : Scp) (t : Tx) (w : World) (hs : ScpV (Kw w) s) : Calls Tryd.prog 9 #[.agg (scpC s), S t] w (Pure (.tuple #[I (findLat s t), I (findVar s t)]) w) := by
 have hm1 := hs.lats.sl.small
 have hm2 := hs.vars.sl.small
 unfold maxLen at hm1 hm2
 refine enter Tryd.func9 rfl Tryd.ntmps9 rfl ?_
 have hH := Hp.start w
 refine SR ?_
 refine RL.new rfl hH (f := fun b => (.pointer (some ⟨b, 0, none⟩))) (run_box (v := .agg _) rfl) ?_
 intro b3 w1 hH2
 refine V (aV (I 0) rfl) ?_
 refine V (aV (I 0) rfl) ?_
 refine RL.nil ?_
 refine SR ?_
 refine V (aV (I (-1)) rfl) ?_
 refine V (aV (I (-1)) rfl) ?_
 refine RL.nil ?_
 refine CW.seq ?_
 refine SR ?_
 refine V (fA underlying25 0 rfl sizeOf22 rfl) ?_
 refine V (run_ldV (hs.lats.sl.hp hH2) underlying22 rfl rfl (hH2.cell (i := 0) rfl rfl)) ?_
 refine V (run_lenSl (hs.lats.sl.hp hH2) rfl underlying22 rfl) ?_
 refine V (mV (I 0) rfl) ?_
 refine RL.nil ?_
 refine CW.block ?_
 refine CW.loop (G := (Int)) (fun (k : Int) s' w' => (Fr [6, 8, 13, 14, 15, 16, 17, 18, 19, 20, 21, 22, 23, 24, 25, 26, 27, 28, 29] _ s') ∧ (Hp w w' _) ∧ (s' 6 = I (findV (fun i => decide ((s.lats.getD i.toNat lat0).name = t)) k)) ∧ (s' 13 = I k) ∧ (0 ≤ k) ∧ (k ≤ s.lats.length)) (fun (k : Int) => (s.lats.length - k).toNat) (0) ⟨Fr.refl _ _, hH2, (congrArg I (find_zero _).symm), rfl, (by omega), (by omega)⟩ ?_
 rintro k sg4 w4 ⟨fr4, hH4, e6_4, e13_4, h0, hk⟩
 have e1_4 : sg4 1 = .string _ := (fr4 1 rfl).trans rfl
 have e2_4 : sg4 2 = Pn _ _ := (fr4 2 rfl).trans rfl
 have e4_4 : sg4 4 = I _ := (fr4 4 rfl).trans rfl
 have e5_4 : sg4 5 = I _ := (fr4 5 rfl).trans rfl
 have e7_4 : sg4 7 = I _ := (fr4 7 rfl).trans rfl
 have e12_4 : sg4 12 = I _ := (fr4 12 rfl).trans rfl
 refine SR ?_
 refine V (run_lss e13_4 e12_4) ?_
 refine RL.nil ?_
 refine CW.seq ?_
 refine CW.condP rfl (fun h6 => ?_) (fun h6 => ?_)
 ·refine CW.skip ?_
  refine CW.seq ?_
  refine CW.block ?_
  refine SR ?_
  refine V (run_move e13_4) ?_
  refine V (aV (I _) rfl) ?_
  refine RL.nil ?_
  refine SR ?_
  refine V (run_move e6_4) ?_
  refine V (run_lss rfl rfl) ?_
  refine V (mV (B _) rfl) ?_
  refine RL.splitP (dj := 18) rfl (fun h8 => ?_) (fun h8 => ?_)
  ·refine RL.gT rfl (bT h8) ?_
   refine V (fA underlying25 0 rfl sizeOf22 e2_4) ?_
   refine RL.gT rfl (bT h8) ?_
   refine V (run_ldV (hs.lats.sl.hp hH4) underlying22 rfl rfl (hH4.cell (i := 0) rfl rfl)) ?_
   refine RL.gT rfl (bT h8) ?_
   refine V (mV (I _) rfl) ?_
   refine RL.gT rfl (bT h8) ?_
   refine V (run_indexAddrS (hs.lats.sl.hp hH4) underlying22 sizeOf56 rfl rfl (by omega)) ?_
   refine RL.gT rfl (bT h8) ?_
   refine V (fA underlying56 0 rfl sizeOf9 rfl) ?_
   refine RL.gT rfl (bT h8) ?_
   refine V (run_ldE1 (dv := lat0) (off := 0) latL_len (hs.lats.sl.hp hH4) underlying9 rfl rfl (by omega) rfl) ?_
   refine RL.gT rfl (bT h8) ?_
   refine V (run_move e1_4) ?_
   refine RL.gT rfl (bT h8) ?_
   refine V (run_eqlS rfl rfl) ?_
   refine V (run_pickT (bT h8) (v := B _) rfl) ?_
   refine RL.nil ?_
   refine CW.condP rfl (fun h10 => ?_) (fun h10 => ?_)
   ·refine CW.region ?_
    refine V (mV (I _) rfl) ?_
    refine V (aV (I _) rfl) ?_
    refine RL.nil ?_
    refine CW.region ?_
    refine V (run_add e13_4 rfl (by omega)) ?_
    refine V (mV (I _) rfl) ?_
    refine RL.nil ?_
    refine ⟨k + 1, ?_, fr4.u4.u4.u4.u4.u1.u1.u1, hH4, (congrArg I (by first | exact (find_up1 h0 ‹_› (decide_eq_true ‹_›)).symm | exact (find_up2 ‹_›).symm | exact (find_up3 (decide_eq_false ‹_›)).symm)), (congrArg I (by first | rfl | omega)), ?_, ?_⟩
    ·((try dsimp only); omega)
    ·omega
    ·omega
   ·refine CW.skip ?_
    refine CW.region ?_
    refine V (run_add e13_4 rfl (by omega)) ?_
    refine V (mV (I _) rfl) ?_
    refine RL.nil ?_
    refine ⟨k + 1, ?_, fr4.u4.u4.u4.u4.u1, hH4, (Eq.trans e6_4 (congrArg I (by first | exact (find_up1 h0 ‹_› (decide_eq_true ‹_›)).symm | exact (find_up2 ‹_›).symm | exact (find_up3 (decide_eq_false ‹_›)).symm))), (congrArg I (by first | rfl | omega)), ?_, ?_⟩
    ·((try dsimp only); omega)
    ·omega
    ·omega
  ·refine RL.gF rfl rfl (bF h8) rfl ?_
   refine RL.gF rfl rfl (bF h8) rfl ?_
   refine RL.gF rfl rfl (bF h8) rfl ?_
   refine RL.gF rfl rfl (bF h8) rfl ?_
   refine RL.gF rfl rfl (bF h8) rfl ?_
   refine RL.gF rfl rfl (bF h8) rfl ?_
   refine RL.gF rfl rfl (bF h8) rfl ?_
   refine RL.gF rfl rfl (bF h8) rfl ?_
   refine V (run_pickF (bF h8) (v := B false) rfl) ?_
   refine RL.nil ?_
   refine CW.condF rfl ?_
   refine CW.skip ?_
   refine CW.region ?_
   refine V (run_add e13_4 rfl (by omega)) ?_
   refine V (mV (I _) rfl) ?_
   refine RL.nil ?_
   refine ⟨k + 1, ?_, fr4.u4.u4.u4.u4.u1, hH4, (Eq.trans e6_4 (congrArg I (by first | exact (find_up1 h0 ‹_› (decide_eq_true ‹_›)).symm | exact (find_up2 ‹_›).symm | exact (find_up3 (decide_eq_false ‹_›)).symm))), (congrArg I (by first | rfl | omega)), ?_, ?_⟩
   ·((try dsimp only); omega)
   ·omega
   ·omega
 ·refine CW.exit (id := 0) rfl ?_
  refine CW.seq ?_
  refine SR ?_
  refine V (fA underlying25 1 rfl sizeOf23 e2_4) ?_
  refine V (run_ldV (hs.vars.sl.hp hH4) underlying23 rfl rfl (hH4.cell (i := 0) rfl rfl)) ?_
  refine V (run_lenSl (hs.vars.sl.hp hH4) rfl underlying23 rfl) ?_
  refine V (mV (I 0) rfl) ?_
  refine RL.nil ?_
  refine CW.block ?_
  refine CW.loop (G := (Int)) (fun (j : Int) s' w' => (Fr [7, 9, 33, 34, 35, 36, 37, 38, 39, 40, 41, 42, 43, 44, 45, 46, 47, 48, 49] _ s') ∧ (Hp w w' _) ∧ (s' 7 = I (findV (fun i => decide ((s.vars.getD i.toNat var0).name = t)) j)) ∧ (s' 33 = I j) ∧ (0 ≤ j) ∧ (j ≤ s.vars.length)) (fun (j : Int) => (s.vars.length - j).toNat) (0) ⟨Fr.refl _ _, hH4, (Eq.trans e7_4 (congrArg I (find_zero _).symm)), rfl, (by omega), (by omega)⟩ ?_
  rintro j sg11 w11 ⟨fr11, hH11, e7_11, e33_11, j0, jk⟩
  have e1_11 := (fr11 1 rfl).trans e1_4
  have e2_11 := (fr11 2 rfl).trans e2_4
  have e4_11 := (fr11 4 rfl).trans e4_4
  have e5_11 := (fr11 5 rfl).trans e5_4
  have e6_11 := (fr11 6 rfl).trans e6_4
  have e32_11 : sg11 32 = I _ := (fr11 32 rfl).trans rfl
  refine SR ?_
  refine V (run_lss e33_11 e32_11) ?_
  refine RL.nil ?_
  refine CW.seq ?_
  refine CW.condP rfl (fun h13 => ?_) (fun h13 => ?_)
  ·refine CW.skip ?_
   refine CW.seq ?_
   refine CW.block ?_
   refine SR ?_
   refine V (run_move e33_11) ?_
   refine V (aV (I _) rfl) ?_
   refine RL.nil ?_
   refine SR ?_
   refine V (run_move e7_11) ?_
   refine V (run_lss rfl rfl) ?_
   refine V (mV (B _) rfl) ?_
   refine RL.splitP (dj := 38) rfl (fun h15 => ?_) (fun h15 => ?_)
   ·refine RL.gT rfl (bT h15) ?_
    refine V (fA underlying25 1 rfl sizeOf23 e2_11) ?_
    refine RL.gT rfl (bT h15) ?_
    refine V (run_ldV (hs.vars.sl.hp hH11) underlying23 rfl rfl (hH11.cell (i := 0) rfl rfl)) ?_
    refine RL.gT rfl (bT h15) ?_
    refine V (mV (I _) rfl) ?_
    refine RL.gT rfl (bT h15) ?_
    refine V (run_indexAddrS (hs.vars.sl.hp hH11) underlying23 sizeOf60 rfl rfl (by omega)) ?_
    refine RL.gT rfl (bT h15) ?_
    refine V (fA underlying60 0 rfl sizeOf9 rfl) ?_
    refine RL.gT rfl (bT h15) ?_
    refine V (run_ldE1 (dv := var0) (off := 0) varL_len (hs.vars.sl.hp hH11) underlying9 rfl rfl (by omega) rfl) ?_
    refine RL.gT rfl (bT h15) ?_
    refine V (run_move e1_11) ?_
    refine RL.gT rfl (bT h15) ?_
    refine V (run_eqlS rfl rfl) ?_
    refine V (run_pickT (bT h15) (v := B _) rfl) ?_
    refine RL.nil ?_
    refine CW.condP rfl (fun h17 => ?_) (fun h17 => ?_)
    ·refine CW.region ?_
     refine V (mV (I _) rfl) ?_
     refine V (aV (I _) rfl) ?_
     refine RL.nil ?_
     refine CW.region ?_
     refine V (run_add e33_11 rfl (by omega)) ?_
     refine V (mV (I _) rfl) ?_
     refine RL.nil ?_
     refine ⟨j + 1, ?_, fr11.u4.u4.u4.u4.u1.u1.u1, hH11, (congrArg I (by first | exact (find_up1 j0 ‹_› (decide_eq_true ‹_›)).symm | exact (find_up2 ‹_›).symm | exact (find_up3 (decide_eq_false ‹_›)).symm)), (congrArg I (by first | rfl | omega)), ?_, ?_⟩
     ·((try dsimp only); omega)
     ·omega
     ·omega
    ·refine CW.skip ?_
     refine CW.region ?_
     refine V (run_add e33_11 rfl (by omega)) ?_
     refine V (mV (I _) rfl) ?_
     refine RL.nil ?_
     refine ⟨j + 1, ?_, fr11.u4.u4.u4.u4.u1, hH11, (Eq.trans e7_11 (congrArg I (by first | exact (find_up1 j0 ‹_› (decide_eq_true ‹_›)).symm | exact (find_up2 ‹_›).symm | exact (find_up3 (decide_eq_false ‹_›)).symm))), (congrArg I (by first | rfl | omega)), ?_, ?_⟩
     ·((try dsimp only); omega)
     ·omega
     ·omega
   ·refine RL.gF rfl rfl (bF h15) rfl ?_
    refine RL.gF rfl rfl (bF h15) rfl ?_
    refine RL.gF rfl rfl (bF h15) rfl ?_
    refine RL.gF rfl rfl (bF h15) rfl ?_
    refine RL.gF rfl rfl (bF h15) rfl ?_
    refine RL.gF rfl rfl (bF h15) rfl ?_
    refine RL.gF rfl rfl (bF h15) rfl ?_
    refine RL.gF rfl rfl (bF h15) rfl ?_
    refine V (run_pickF (bF h15) (v := B false) rfl) ?_
    refine RL.nil ?_
    refine CW.condF rfl ?_
    refine CW.skip ?_
    refine CW.region ?_
    refine V (run_add e33_11 rfl (by omega)) ?_
    refine V (mV (I _) rfl) ?_
    refine RL.nil ?_
    refine ⟨j + 1, ?_, fr11.u4.u4.u4.u4.u1, hH11, (Eq.trans e7_11 (congrArg I (by first | exact (find_up1 j0 ‹_› (decide_eq_true ‹_›)).symm | exact (find_up2 ‹_›).symm | exact (find_up3 (decide_eq_false ‹_›)).symm))), (congrArg I (by first | rfl | omega)), ?_, ?_⟩
    ·((try dsimp only); omega)
    ·omega
    ·omega
  ·refine CW.exit (id := 2) rfl ?_
   refine SR ?_
   refine V (run_move e6_11) ?_
   refine V (run_move e7_11) ?_
   refine V (aV (I _) rfl) ?_
   refine V (aV (I _) rfl) ?_
   refine RL.nil ?_
   refine CW.ret ?_
   refine outP2 Tryd.results9 (congrArg I ?_) (congrArg I ?_) hH11.below
   all_goals (first | (rw [findLat]; congr 1; omega) | (rw [findVar]; congr 1; omega))

end Go.Proofs.YtiaifdnlkdcbiaaDoor.W
