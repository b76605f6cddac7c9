/-
  The walks of the functions that the laws of this seat reach, part 1: each returns what its plain counterpart tells, and turns nothing that was there.
-/
import Derived.Test.YtieckcbckgalhaaDoorProg
import Derived.Test.YtieckcbckgalhaaDoorEnv
import Derived.Test.YtieckcbckgalhaaDoorPlain
import Derived.Test.YtieckcbckgalhaaDoorBase
import Derived.Test.YtieckcbckgalhaaDoorOrd
import Derived.Test.YtieckcbckgalhaaDoorRel
import Derived.Test.YtieckcbckgalhaaDoorClo
import Derived.Test.YtieckcbckgalhaaDoorCov
import Derived.Test.YtieckcbckgalhaaDoorArr
import Derived.Test.YtieckcbckgalhaaDoorHas
import Derived.Test.YtieckcbckgalhaaDoorGrd
import Derived.Test.YtieckcbckgalhaaDoorStr
import Derived.Test.YtieckcbckgalhaaDoorVu
import Derived.Test.YtieckcbckgalhaaDoorShp
import Derived.Test.YtieckcbckgalhaaDoorShl
import Derived.Test.YtieckcbckgalhaaDoorShq
import Derived.Test.YtieckcbckgalhaaDoorShr
import Derived.Test.YtieckcbckgalhaaDoorCut
import Derived.Test.YtieckcbckgalhaaDoorRec
import Derived.Test.YtieckcbckgalhaaDoorOut
import Derived.Test.YtieckcbckgalhaaDoorScp
import Derived.Test.YtieckcbckgalhaaDoorScq
import Derived.Test.YtieckcbckgalhaaDoorByt
import Derived.Test.YtieckcbckgalhaaDoorNod
import Derived.Test.YtieckcbckgalhaaDoorSpl
import Derived.Test.YtieckcbckgalhaaDoorSpb
import Derived.Test.YtieckcbckgalhaaDoorSpt
import Derived.Test.YtieckcbckgalhaaDoorSpn
import Derived.Test.YtieckcbckgalhaaDoorSpx
import Derived.Test.YtieckcbckgalhaaDoorSpy
import Derived.Test.YtieckcbckgalhaaDoorMk
import Derived.Test.YtieckcbckgalhaaDoorAsn
import Derived.Test.YtieckcbckgalhaaDoorAsp
import Derived.Test.YtieckcbckgalhaaDoorAsr
import Derived.Test.YtieckcbckgalhaaDoorAst
import Derived.Test.YtieckcbckgalhaaDoorAsw
import Derived.Test.YtieckcbckgalhaaDoorMin
namespace Go.Proofs.YtieckcbckgalhaaDoor.W
open Go Go.RowKit Go.Proofs.YtieckcbckgalhaaDoor.E Go.Proofs.YtieckcbckgalhaaDoor.M
set_option linter.unusedVariables false
set_option linter.unusedSimpArgs false
set_option maxRecDepth 100000
open Tryd
theorem zero_rel : ∀ w, (zeroValue 42).run Tryd.prog w = .ok (.agg (relC Rl.none)) w := fun w => by
  rw [relC_def]; exact Tryd.zeroValue42 w
theorem built_rel (a : Int) : Tryd.prog.built 42 [(0, I a)] = some (relC ⟨a, fun _ => 0#64⟩) := by
  rw [relC_def]; rfl
theorem relT_fields : Tryd.prog.fieldsOf 42 = #[{ name := "N", type := 3, offset := 0, embedded := false, tag := "", pkgPath := "", byteOffset := 0 }, { name := "Up", type := 40, offset := 1, embedded := false, tag := "", pkgPath := "", byteOffset := 8 }] := by
  unfold Program.fieldsOf; rw [Tryd.underlying42]
theorem relT_fact : RelT Tryd.prog 42 { name := "N", type := 3, offset := 0, embedded := false, tag := "", pkgPath := "", byteOffset := 0 } { name := "Up", type := 40, offset := 1, embedded := false, tag := "", pkgPath := "", byteOffset := 8 } 23 :=
  ⟨by rw [relT_fields]; exact Tryd.underlying42, relT_fields, by decide, by decide, rfl, rfl, Tryd.underlying3, Tryd.isAgg3, Tryd.underlying40, Tryd.isAgg40, Tryd.sizeOf40, Tryd.underlying23, Tryd.sizeOf23, Tryd.isAgg23, by kernel_rfl, by kernel_rfl⟩
theorem elT_fact : ElT Tryd.prog 25 23 := ⟨Tryd.underlying25, Tryd.underlying23, Tryd.sizeOf23, Tryd.isAgg23, by kernel_rfl⟩
theorem zero_el : ∀ w, (zeroValue 25).run Tryd.prog w = .ok (.agg (elC el0)) w := fun w => by
  rw [elC_zero]; exact Tryd.zeroValue25 w
theorem zero_fac : ∀ w, (zeroValue 44).run Tryd.prog w = .ok (.agg (facC fac0)) w := fun w => Tryd.zeroValue44 w
theorem built_rel0 : Tryd.prog.built 42 [] = some (relC Rl.none) := by
  rw [relC_def]; rfl
theorem built_shp1 {v : Value} (h : v.cells = #[v]) : Tryd.prog.built 47 [(1, v)] = some #[B false, v] :=
  (show Tryd.prog.built 47 [(1, v)] = Instr.fill (#[(0, 1), (1, 1)][·]?) #[B false, .slice none 0 0] [(1, v)] from rfl).trans (by simp only [Instr.fill, h]; rfl)
theorem built_fac (k : Int) (b n : Nat) (l : List Tx) : Tryd.prog.built 44 [(0, I k), (1, .slice (some ⟨b, 0, none⟩) n n)] = some (facC ⟨k, .slice (some ⟨b, 0, none⟩) n n, l, Rl.none⟩) := rfl
theorem built_el1 (a : BitVec 64) : Tryd.prog.built 25 [(0, U a)] = some (elC (putE el0 0 a)) := by
  rw [elC_def]; rfl
theorem built_wdLs (a : Tx) : Tryd.prog.built 98 [(0, S a)] = some (wdL ⟨a, 0⟩).toArray := rfl
theorem built_el0 : Tryd.prog.built 25 [] = some (elC el0) := by
  rw [elC_def]; rfl
theorem built_node0 : Tryd.prog.built 77 [] = some (nodeL node0).toArray := rfl
theorem built_nodeK (k : Int) : Tryd.prog.built 77 [(0, I k)] = some (nodeL (kindR k tx0 (.slice none 0 0) [])).toArray := rfl
theorem built_nodeTN {v : Value} (h : v.cells = #[v]) (k : Int) (t : Tx) (l : List Wd) : Tryd.prog.built 77 [(0, I k), (2, S t), (3, v)] = some (nodeL (kindR k t v l)).toArray :=
  (show Tryd.prog.built 77 [(0, I k), (2, S t), (3, v)] = Instr.fill (#[(0, 1), (1, 1), (2, 1), (3, 1), (4, 1)][·]?) (nodeL node0).toArray [(0, I k), (2, S t), (3, v)] from rfl).trans (by simp only [Instr.fill, h]; rfl)
theorem built_varL_0_1 (a : Tx) (b : Int) : Tryd.prog.built 52 [(0, S a), (1, I b)] = some (varL ⟨a, b, 0⟩).toArray := rfl
theorem built_lat (t : Tx) (p : Shp) : Tryd.prog.built 49 [(0, S t), (1, .agg (shpC p))] = some (latL ⟨t, p⟩).toArray := rfl
theorem built_scpV {v u : Value} (h : v.cells = #[v]) (h2 : u.cells = #[u]) : Tryd.prog.built 55 [(0, v), (1, u)] = some #[v, u] :=
  (show Tryd.prog.built 55 [(0, v), (1, u)] = Instr.fill (#[(0, 1), (1, 1)][·]?) #[.slice none 0 0, .slice none 0 0] [(0, v), (1, u)] from rfl).trans (by simp only [Instr.fill, h, h2]; rfl)
theorem built_asgV {v u : Value} (h : v.cells = #[v]) (h2 : u.cells = #[u]) : Tryd.prog.built 32 [(0, v), (1, u)] = some #[v, u] :=
  (show Tryd.prog.built 32 [(0, v), (1, u)] = Instr.fill (#[(0, 1), (1, 1)][·]?) #[.slice none 0 0, .slice none 0 0] [(0, v), (1, u)] from rfl).trans (by simp only [Instr.fill, h, h2]; rfl)
theorem built_asg1 {v : Value} (h : v.cells = #[v]) : Tryd.prog.built 32 [(1, v)] = some #[.slice none 0 0, v] :=
  (show Tryd.prog.built 32 [(1, v)] = Instr.fill (#[(0, 1), (1, 1)][·]?) #[.slice none 0 0, .slice none 0 0] [(1, v)] from rfl).trans (by simp only [Instr.fill, h]; rfl)
theorem built_val (a : Tx) (e : El) : Tryd.prog.built 27 [(0, S a), (1, .agg (elC e))] = some (valL ⟨a, e⟩).toArray := by
  rw [elC_def]; kernel_rfl
theorem eq_val (a b : ValR) : EqT Tryd.prog 27 (valL a).toArray (valL b).toArray (sameV a b) :=
  (eqT Tryd.underlying27 (by kernel_rfl) (by kernel_rfl) (.cons (fldS (a := a.name) (b := b.name) (by decide) Tryd.underlying9 Tryd.isAgg9 rfl rfl) (.cons (fldEl (a := a.el) (b := b.el) (by decide) elT_fact Tryd.isAgg25 Tryd.sizeOf25 (val_ext a) (val_ext b)) .nil))).conv (by simp [sameV])
theorem zero_lat : ∀ w, (zeroValue 49).run Tryd.prog w = .ok (.agg (latL lat0).toArray) w := fun w => Tryd.zeroValue49 w
theorem zero_val : ∀ w, (zeroValue 27).run Tryd.prog w = .ok (.agg (valL val0).toArray) w := fun w => (Tryd.zeroValue27 w).trans (by kernel_rfl)
theorem zero_asg : ∀ w, (zeroValue 32).run Tryd.prog w = .ok (.agg (asgL asg0).toArray) w := fun w => Tryd.zeroValue32 w
theorem c_rung_chain (n : Int) (w : World) : Calls Tryd.prog 77 #[I n] w (Pure (B (chainB n)) w) := by
 refine enter Tryd.func77 rfl Tryd.ntmps77 rfl <| have hH := Hp.start w; SR <| va (v := B false) rfl <| RL.nil <| SR <| mI rfl <| V (run_geq rfl rfl) <| mB rfl <| RL.splitP (dj := 5) rfl (fun h2 => ?_) (fun h2 => ?_)
 ·refine gT rfl (bT h2) <| mI rfl <| gT rfl (bT h2) <| V (run_leq rfl rfl) <| V (run_pickT (bT h2) (v := B _) rfl) <| aB rfl <| RL.nil <| CW.ret <| outP1 Tryd.results77 (congrArg B ?_) hH.below
  (simp [chainB]; omega)
 ·refine gF rfl (bF h2) <| gF rfl (bF h2) <| V (run_pickF (bF h2) (v := B false) rfl) <| aB rfl <| RL.nil <| CW.ret <| outP1 Tryd.results77 (congrArg B ?_) hH.below
  (simp [chainB]; omega)
theorem c_mask_Below (n : Int) (w : World) : Calls Tryd.prog 45 #[I n] w (Pure (U (below n)) w) := by
 refine enter Tryd.func45 rfl Tryd.ntmps45 rfl <| have hH := Hp.start w; SR <| va (v := U 0#64) rfl <| RL.nil <| CW.seq <| SR <| mI rfl <| V (run_leq rfl rfl) <| RL.nil <| CW.condP rfl (fun h2 => ?_) (fun h2 => ?_)
 ·refine SR <| va (v := U 0#64) rfl <| RL.nil <| CW.ret <| outP1 Tryd.results45 (congrArg U (below_nonpos ‹_›).symm) hH.below
 ·refine CW.skip <| CW.seq <| SR <| mI rfl <| V (run_geq rfl rfl) <| RL.nil <| CW.condP rfl (fun h4 => ?_) (fun h4 => ?_)
  ·refine SR <| va (v := U 18446744073709551615#64) rfl <| RL.nil <| CW.ret <| outP1 Tryd.results45 (congrArg U (below_all ‹_›).symm) hH.below
  ·refine CW.skip <| SR <| mI rfl <| V (run_convIU underlying3 underlying112 rfl) <| V (run_shlU (a := 1#64) rfl rfl) <| V (run_subU rfl (b := 1#64) rfl) <| aU rfl <| RL.nil <| CW.ret <| outP1 Tryd.results45 (congrArg U (below_mid ‹_› ‹_›).symm) hH.below
theorem c_rung_Level (n : Int) (s : BitVec 64) (w : World) : Calls Tryd.prog 62 #[I n, U s] w (Pure (.tuple #[I (level n s).1, B (level n s).2]) w) := by
 refine enter Tryd.func62 rfl Tryd.ntmps62 rfl <| have hH := Hp.start w; SR <| va (v := I 0) rfl <| va (v := B false) rfl <| RL.nil <| CW.seq <| SR <| mI rfl <| RL.callP rfl hH (c_rung_chain _  _) (run_call1 call77 rfl) <| fun w1 hH2 => V (run_not rfl) <| RL.nil <| CW.cond rfl (fun h5 => ?_) (fun h5 => ?_)
 ·refine SR <| va (v := I 0) rfl <| va (v := B false) rfl <| RL.nil <| CW.ret <| have hn := chain_f ‹(!chainB n) = true›; ?_
  refine outP2 Tryd.results62 (congrArg I ?_) (congrArg B ?_) hH2.below <;> rw [level_no s hn]
 ·refine CW.skip <| CW.seq <| SR <| mI rfl <| vm (v := I 0) rfl <| RL.nil <| CW.block <| have hn := chain_t ‹(!chainB n) = false›; CW.loop (G := Int) (fun k s' w' => (Fr (rg 4 3 (rg 11 9 [])) _ s') ∧ (Hp w w' _) ∧ (s' 11 = I k) ∧ (0 ≤ k) ∧ (k ≤ n) ∧ (∀ j : Int, 0 ≤ j → j < k → s ≠ below j)) (fun k => (n - k).toNat) (0) ⟨Fr.refl _ _, hH2, rfl, (by omega), (by omega), fun j a b => absurd b (by omega)⟩ <| ?_
  rintro k sg6 w6 ⟨fr6, hH6, e11_6, h0, hk, hf⟩
  have e1_6 := fr6.uu 1 rfl rfl
  have e10_6 := fr6.ii 10 rfl rfl
  refine SR <| V (run_lss e11_6 e10_6) <| RL.nil <| CW.seq <| CW.condP rfl (fun h8 => ?_) (fun h8 => ?_)
  ·refine CW.skip <| CW.seq <| CW.block <| SR <| vm e11_6 <| aI rfl <| RL.nil <| SR <| vm e1_6 <| mI rfl <| RL.callP rfl hH6 (c_mask_Below _  _) (run_call1 call45 rfl) <| fun w9 hH10 => V (run_eqlU rfl rfl) <| RL.nil <| CW.condP rfl (fun h12 => ?_) (fun h12 => ?_)
   ·refine SR <| mI rfl <| aI rfl <| va (v := B true) rfl <| RL.nil <| CW.ret <| ?_
    refine outP2 Tryd.results62 (congrArg I ?_) (congrArg B ?_) hH10.below <;> rw [level_at hn h0 (by omega) ‹_› hf]
   ·refine CW.skip <| CW.region <| V (run_add e11_6 rfl (by omega)) <| mI rfl <| RL.nil <| ?_
    refine ⟨k + 1, ?_, fr6.u4.u4.u1, hH10, (congrArg I (by rfl)), ?_, ?_, ?_⟩
    ·((try dsimp only); omega)
    ·omega
    ·omega
    ·exact fun j a b => if e : j = k then e ▸ ‹¬ s = below k› else hf j a (by omega)
  ·refine CW.exit (id := 0) rfl <| SR <| va (v := I 0) rfl <| va (v := B false) rfl <| RL.nil <| CW.ret <| ?_
   refine outP2 Tryd.results62 (congrArg I ?_) (congrArg B ?_) hH6.below <;> rw [level_none hn (fun j a b => hf j a (by omega))]
theorem c_mask_in (i : Int) (w : World) : Calls Tryd.prog 91 #[I i] w (Pure (B (inB i)) w) := by
 refine enter Tryd.func91 rfl Tryd.ntmps91 rfl <| have hH := Hp.start w; SR <| va (v := B false) rfl <| RL.nil <| SR <| mI rfl <| V (run_geq rfl rfl) <| mB rfl <| RL.splitP (dj := 5) rfl (fun h2 => ?_) (fun h2 => ?_)
 ·refine gT rfl (bT h2) <| mI rfl <| gT rfl (bT h2) <| V (run_lss rfl rfl) <| V (run_pickT (bT h2) (v := B _) rfl) <| aB rfl <| RL.nil <| CW.ret <| outP1 Tryd.results91 (congrArg B ?_) hH.below
  (simp [inB]; try omega)
 ·refine gF rfl (bF h2) <| gF rfl (bF h2) <| V (run_pickF (bF h2) (v := B false) rfl) <| aB rfl <| RL.nil <| CW.ret <| outP1 Tryd.results91 (congrArg B ?_) hH.below
  (simp [inB]; try omega)
theorem c_mask_Has (s : BitVec 64) (i : Int) (w : World) : Calls Tryd.prog 100 #[U s, I i] w (Pure (B (hasB s i)) w) := by
 refine enter Tryd.func100 rfl Tryd.ntmps100 rfl <| have hH := Hp.start w; SR <| va (v := B false) rfl <| RL.nil <| SR <| mI rfl <| RL.callP rfl hH (c_mask_in _  _) (run_call1 call91 rfl) <| fun w1 hH2 => mB rfl <| RL.split (dj := 7) rfl (fun h4 => ?_) (fun h4 => ?_)
 ·refine gT rfl (bR (c := true) h4) <| mU rfl <| gT rfl (bR (c := true) h4) <| mI rfl <| gT rfl (bR (c := true) h4) <| V (run_convIU underlying3 underlying112 rfl) <| gT rfl (bR (c := true) h4) <| V (run_shrU rfl rfl) <| gT rfl (bR (c := true) h4) <| V (run_andU rfl (b := 1#64) rfl) <| gT rfl (bR (c := true) h4) <| V (run_eqlU rfl (b := 1#64) rfl) <| V (run_pickT (bR (c := true) h4) (v := B _) rfl) <| aB rfl <| RL.nil <| CW.ret <| outP1 Tryd.results100 (congrArg B ?_) hH2.below
  exact has_bit s ‹inB i = true›
 ·refine gF rfl (bR (c := false) h4) <| gF rfl (bR (c := false) h4) <| gF rfl (bR (c := false) h4) <| gF rfl (bR (c := false) h4) <| gF rfl (bR (c := false) h4) <| gF rfl (bR (c := false) h4) <| V (run_pickF (bR (c := false) h4) (v := B false) rfl) <| aB rfl <| RL.nil <| CW.ret <| outP1 Tryd.results100 (congrArg B ?_) hH2.below
  exact (has_no s ‹inB i = false›).symm
theorem c_mask_With (s : BitVec 64) (i : Int) (w : World) : Calls Tryd.prog 75 #[U s, I i] w (Pure (U (withB s i)) w) := by
 refine enter Tryd.func75 rfl Tryd.ntmps75 rfl <| have hH := Hp.start w; SR <| va (v := U 0#64) rfl <| RL.nil <| CW.seq <| SR <| mI rfl <| RL.callP rfl hH (c_mask_in _  _) (run_call1 call91 rfl) <| fun w1 hH2 => V (run_not rfl) <| RL.nil <| CW.cond rfl (fun h5 => ?_) (fun h5 => ?_)
 ·refine SR <| mU rfl <| aU rfl <| RL.nil <| CW.ret <| outP1 Tryd.results75 (congrArg U ?_) hH2.below
  simp_all [withB]
 ·refine CW.skip <| SR <| mU rfl <| mI rfl <| V (run_convIU underlying3 underlying112 rfl) <| V (run_shlU (a := 1#64) rfl rfl) <| V (run_orU rfl rfl) <| aU rfl <| RL.nil <| CW.ret <| outP1 Tryd.results75 (congrArg U ?_) hH2.below
  simp_all [withB]
theorem c_mask_Sub (a b : BitVec 64) (w : World) : Calls Tryd.prog 35 #[U a, U b] w (Pure (B (subB a b)) w) := by
 refine enter Tryd.func35 rfl Tryd.ntmps35 rfl <| have hH := Hp.start w; SR <| va (v := B false) rfl <| RL.nil <| SR <| mU rfl <| mU rfl <| V (run_andNotU rfl rfl) <| V (run_eqlU rfl (b := 0#64) rfl) <| aB rfl <| RL.nil <| CW.ret <| outP1 Tryd.results35 (congrArg B ?_) hH.below
 rfl
theorem c_mask_Of (v : Value) (l : List Int) (w : World) (hs : Sl w v 1 l.length (l.map I)) : Calls Tryd.prog 87 #[v] w (Pure (U (ofl l)) w) := by
 have hm := hs.small
 unfold maxLen at hm
 refine enter Tryd.func87 rfl Tryd.ntmps87 rfl <| have hH := Hp.start w; SR <| va (v := U 0#64) rfl <| RL.nil <| SR <| va (v := U 0#64) rfl <| RL.nil <| CW.seq <| SR <| ?_
 refine V (run_move (by conv => lhs; whnf)) ?_
 refine V (run_lenSl (hs.hp hH) rfl underlying104 rfl) <| vm (v := I 0) rfl <| RL.nil <| CW.block <| CW.loop (G := Int) (fun k s' w' => (Fr (3 :: (5 :: (rg 8 8 []))) _ s') ∧ (Hp w w' _) ∧ (s' 3 = U (ofl (l.take k.toNat))) ∧ (s' 8 = I k) ∧ (0 ≤ k) ∧ (k ≤ l.length)) (fun k => (l.length - k).toNat) (0) ⟨Fr.refl _ _, hH, (congrArg U (by simp [ofl_nil])), rfl, (by omega), (by omega)⟩ <| ?_
 rintro k sg1 w1 ⟨fr1, hH1, e3_1, e8_1, h0, hk⟩
 have e6_1 := (fr1 6 rfl).trans (by conv => lhs; whnf)
 have e7_1 := fr1.ii 7 rfl rfl
 refine SR <| V (run_lss e8_1 e7_1) <| RL.nil <| CW.seq <| CW.condP rfl (fun h3 => ?_) (fun h3 => ?_)
 ·refine CW.skip <| CW.seq <| CW.block <| SR <| V (run_indexAddrS (hs.hp hH1) underlying104 sizeOf3 e6_1 e8_1 (by omega)) <| V (run_ld underlying3 rfl rfl ((hs.hp hH1).cell _ _ (map_at (by omega)))) <| aI rfl <| RL.nil <| CW.region <| vm e3_1 <| mI rfl <| RL.callP rfl hH1 (c_mask_With _ _  _) (run_call2 call75 rfl rfl) <| fun w4 hH5 => aU rfl <| RL.nil <| CW.region <| V (run_add e8_1 rfl (by omega)) <| mI rfl <| RL.nil <| ?_
  refine ⟨k + 1, ?_, fr1.u4.u4.u1.u1, hH5, (congrArg U (by rw [withB_ofl, ← take_next h0 ‹_›])), (congrArg I (by rfl)), ?_, ?_⟩
  ·((try dsimp only); omega)
  ·omega
  ·omega
 ·refine CW.exit (id := 0) rfl <| SR <| vm e3_1 <| aU rfl <| RL.nil <| CW.ret <| outP1 Tryd.results87 (congrArg U ?_) hH1.below
  rw [take_all ‹_›]
theorem c_rung_Right (n : Int) (s : BitVec 64) (w : World) : Calls Tryd.prog 44 #[I n, U s] w (Pure (B (level n s).2) w) := by
 refine enter Tryd.func44 rfl Tryd.ntmps44 rfl <| have hH := Hp.start w; SR <| va (v := B false) rfl <| RL.nil <| SR <| mI rfl <| mU rfl <| RL.callP rfl hH (c_rung_Level _ _  _) (run_call2 call62 rfl rfl) <| fun w1 hH2 => ?_
 refine V (run_move (by conv => lhs; whnf)) ?_
 refine V (run_extract rfl (v := I _) rfl) <| V (run_extract rfl (v := B _) rfl) <| aI rfl <| aB rfl <| RL.nil <| SR <| mB rfl <| aB rfl <| RL.nil <| CW.ret <| outP1 Tryd.results44 (congrArg B ?_) hH2.below
 rfl
theorem c_bits_TrailingZeros64 (s : BitVec 64) (w : World) (hT : Tab w) : Calls Tryd.prog 72 #[U s] w (Pure (I (tz s)) w) := by
 refine enter Tryd.func72 rfl Tryd.ntmps72 rfl <| have hH := Hp.start w; SR <| va (v := I 0) rfl <| RL.nil <| CW.seq <| SR <| mU rfl <| V (run_eqlU rfl (b := 0#64) rfl) <| RL.nil <| CW.condP rfl (fun h2 => ?_) (fun h2 => ?_)
 ·refine SR <| va (v := I 64) rfl <| RL.nil <| CW.ret <| outP1 Tryd.results72 (congrArg I ?_) hH.below
  rw [‹s = 0#64›]; rfl
 ·refine CW.skip <| SR <| mU rfl <| mU rfl <| V (run_negU rfl) <| V (run_andU rfl rfl) <| V (run_mulU rfl (b := 285870213051353865#64) rfl) <| V (run_shrU rfl (b := 58#64) rfl) <| V (run_indexAddrA underlying124 sizeOf5 rfl rfl (by exact tz_idx _)) <| V (run_ld underlying5 rfl rfl (hT.at _)) <| V (run_convUI underlying5 underlying3 rfl (conv_bd (tztab_bd _))) <| aI rfl <| RL.nil <| CW.ret <| outP1 Tryd.results72 (congrArg I ?_) hH.below
  exact tz_ne ‹_›
theorem c_mask_Each (f : FuncId) (cap : Array Value) (Inv Stop : List Int → World → Prop) (s : BitVec 64) (w : World) (hf : ∀ args w, (callFunc f args).run Tryd.prog w = .ok (.enter f args) w) (hm : ∀ l w w', Inv l w → Below w.heap.size w w' → Inv l w') (hT : ∀ l w, Inv l w → Tab w) (go : ∀ l i r w, lst s = l ++ i :: r → Inv l w → Calls Tryd.prog f (#[I i] ++ cap) w (Ret fun u w' => ∃ c : Bool, u = B c ∧ (c = true → Inv (l ++ [i]) w') ∧ (c = false → Stop (l ++ [i]) w'))) (h0 : Inv [] w) : Calls Tryd.prog 56 #[U s, .func (.func f) #[] cap] w (Ret fun u w' => u = .tuple #[] ∧ (Inv (lst s) w' ∨ ∃ l i r, lst s = l ++ i :: r ∧ Stop (l ++ [i]) w')) := by
 refine enter Tryd.func56 rfl Tryd.ntmps56 rfl <| have hH := Hp.start w; CW.block <| CW.loop (G := (BitVec 64) × (List Int)) (fun ⟨s1, l⟩ s' w' => (Fr (0 :: (rg 4 11 [])) _ s') ∧ (Inv l w') ∧ (s' 0 = U s1) ∧ (lst s = l ++ lst s1)) (fun ⟨s1, l⟩ => (lst s1).length) ((s, [])) ⟨Fr.refl _ _, h0, rfl, (by simp)⟩ <| ?_
 rintro ⟨s1, l⟩ sg1 w1 ⟨fr1, hH1, e0_1, hl⟩
 have hI1 := hH1
 clear hH1
 have hH1 := Hp.start w1
 have e1_1 := fr1.vv 1 (a := .func _ _ _) rfl rfl
 refine CW.seq <| SR <| vm e0_1 <| V (run_neqU rfl (b := 0#64) rfl) <| RL.nil <| CW.condP rfl (fun h3 => ?_) (fun h3 => ?_)
 ·refine CW.skip <| CW.block <| CW.seq <| SR <| vm e1_1 <| vm e0_1 <| RL.callP rfl hH1 (c_bits_TrailingZeros64 _ _ (hT _ _ hI1)) (run_call1 call72 rfl) <| fun w4 hH5 => have hI := hm _ _ _ hI1 hH5.below; RL.call rfl (run_callV1 hf rfl (v1 := I (tz s1)) rfl) (go l (tz s1) (lst (s1 &&& (s1 - 1#64))) _ (by rw [hl, lst_tz ‹_›]) hI) <| ?_
  rintro u8 w6 ⟨c, rfl, hJ1, hJ2⟩
  have hH7 := Hp.start w6
  refine V (run_not rfl) <| RL.nil <| CW.cond rfl (fun h11 => ?_) (fun h11 => ?_)
  ·refine CW.ret <| out0 Tryd.results56 ⟨rfl, .inr ⟨l, tz s1, lst (s1 &&& (s1 - 1#64)), by rw [hl, lst_tz ‹_›], hJ2 (by simpa using ‹(!c) = true›)⟩⟩
  ·refine CW.skip <| CW.region <| vm e0_1 <| vm e0_1 <| V (run_subU rfl (b := 1#64) rfl) <| V (run_andU rfl rfl) <| aU rfl <| RL.nil <| ?_
   refine ⟨(s1 &&& (s1 - 1#64), l ++ [tz s1]), ?_, fr1.u4.u4.u4, (hJ1 (by simpa using ‹(!c) = false›)), rfl, ?_⟩
   ·exact lst_clear_lt ‹_›
   ·rw [hl, lst_tz ‹_›]; simp
 ·refine CW.exit (id := 0) rfl <| have hn : lst s1 = [] := lst_eq_nil.2 (by simpa using ‹¬ s1 ≠ 0#64›); out0 Tryd.results56 ⟨rfl, .inl (by rw [hl, hn, List.append_nil]; assumption)⟩
theorem c_mask_List_1 (W0 : World) (b : Nat) (v : Value) (l : List Int) (i : Int) (w : World) (hH : Hp W0 w [.row v 3 1 l.length (l.map I), .blk b (.cells #[v] 104 (0, 0))]) (hlen : l.length ≤ 64) : Calls Tryd.prog 73 #[I i, .pointer (some ⟨b, 0, none⟩)] w (Ret fun u w' => u = B true ∧ ∃ v', Hp W0 w' [.row v' 3 1 (l ++ [i]).length ((l ++ [i]).map I), .blk b (.cells #[v'] 104 (0, 0))]) := by
 refine enter Tryd.func73 rfl Tryd.ntmps73 rfl <| SR <| va (v := B false) rfl <| RL.nil <| SR <| V (run_ld underlying104 rfl rfl (hH.cell (i := 1) rfl rfl)) <| mI rfl <| RL.new rfl hH (f := fun b => (.slice (some ⟨b, 0, none⟩) 1 1)) (run_mkL underlying104 rfl rfl (sz := 1) (vs := [I _]) rfl rfl (by decide) (by decide) rfl rfl) <| fun b3 w1 hH2 => ?_
 (try simp only [clX] at hH2)
 refine RL.app rfl hH2 (i := 1) rfl (hH2.slBlk (i := 0) (n := 1) (sz := 1) rfl rfl (by decide)) rfl rfl underlying104 rfl rfl (size := 1) (bytes := 8) rfl rfl rfl (by decide) (by simp [Value.oneCell']) (by omega) (by simp only [maxLen]; omega) <| fun v4 w5 hH6 => ?_
 simp only [z2] at hH6
 refine RL.set hH6 (i := 2) rfl (run_st rfl rfl (by conv => lhs; whnf) (row_cells (hH6.get (i := 1) rfl)).1 (row_cells (hH6.get (i := 1) rfl)).2 (hH6.blk (i := 2) rfl) (by simp)) ?_
 intro w7 hH8
 simp only [z2] at hH8
 refine RL.nil <| SR <| va (v := B true) rfl <| RL.nil <| CW.ret <| out1 Tryd.results73 rfl ⟨rfl, (v4 : Value), Hp.conv hH8.tail (by simp)⟩
theorem c_mask_List (s : BitVec 64) (w : World) (hT : Tab w) : Calls Tryd.prog 59 #[U s] w (PureRow 3 1 (lst s).length ((lst s).map I) w) := by
 refine enter Tryd.func59 rfl Tryd.ntmps59 rfl <| have hH := Hp.start w; SR <| va (v := .slice none 0 0) rfl <| RL.nil <| SR <| RL.new rfl hH (f := fun b => (.pointer (some ⟨b, 0, none⟩))) (run_alloc Tryd.zeroValue104) <| fun b3 w1 hH2 => have hH4 := hH2.nilRow 3 1; RL.nil <| SR <| mU rfl <| ?_
 refine V (run_mkF1 (by conv => lhs; whnf)) ?_
 refine RL.call rfl (run_call2 call56 (v1 := U s) rfl (v2 := .func (.func 73) #[] #[.pointer (some ⟨b3, 0, none⟩)]) rfl) (c_mask_Each 73 _ (fun l w' => ∃ v, Hp w w' [.row v 3 1 l.length (l.map I), .blk b3 (.cells #[v] 104 (0, 0))]) (fun _ _ => False) s _ call73 (fun l w' w'' h hb => h.imp fun v h => h.call hb) (fun l w' h => h.elim fun v h => hT.hp h) (fun l i r w' he h => h.elim fun v h => by
   have hl64 : l.length ≤ 64 := by have := lst_len s; rw [he] at this; simp at this; omega
   have hc := c_mask_List_1 w b3 v l i w' h hl64
   refine Ret.calls hc <| fun u w2 hq => ⟨true, hq.1, fun _ => hq.2, fun h => by cases h⟩) ⟨.slice none 0 0, hH4⟩) ?_
 rintro u w5 ⟨rfl, hor⟩
 obtain ⟨v7, hH6⟩ := hor.resolve_right (fun ⟨_, _, _, _, h⟩ => h)
 refine RL.nil <| SR <| V (run_ld underlying104 rfl rfl (hH6.cell (i := 1) rfl rfl)) <| ?_
 refine V (run_assign (by conv => lhs; whnf)) ?_
 refine RL.nil <| CW.ret <| outR Tryd.results59 rfl hH6 (i := 0) rfl (rfl) (rfl)
theorem c_relate_points (r : Rl) (w : World) : Calls Tryd.prog 89 #[.agg (relC r)] w (Pure (I (pts r)) w) := by
 refine enter Tryd.func89 rfl Tryd.ntmps89 rfl <| have hH := Hp.start w; SR <| RL.new rfl hH (f := fun b => (.pointer (some ⟨b, 0, none⟩))) (run_box (v := .agg _) rfl) <| fun b3 w1 hH2 => va (v := I 0) rfl <| RL.nil <| SR <| V (fA underlying42 0 rfl sizeOf3 rfl) <| V (run_ld underlying3 rfl rfl (hH2.cell (i := 0) rfl (relC_N _))) <| V (run_minI rfl rfl) <| V (run_maxI rfl rfl) <| aI rfl <| RL.nil <| CW.ret <| outP1 Tryd.results89 (congrArg I ?_) hH2.below
 rfl
theorem c_relate_row (r : Rl) (i : Int) (hi : 0 ≤ i ∧ i < 64) (w : World) : Calls Tryd.prog 95 #[.agg (relC r), I i] w (Pure (U (rowR r i)) w) := by
 refine enter Tryd.func95 rfl Tryd.ntmps95 rfl <| have hH := Hp.start w; SR <| RL.new rfl hH (f := fun b => (.pointer (some ⟨b, 0, none⟩))) (run_box (v := .agg _) rfl) <| fun b3 w1 hH2 => va (v := U 0#64) rfl <| RL.nil <| CW.seq <| CW.regionD (by kernel_rfl) hH2 <| fun w4 hH5 => have zh5 := hH5.sub sR; AQ 0 rfl zh5 (mV (I _) rfl) <| AQ 1 rfl zh5 (fA underlying42 1 rfl sizeOf40 rfl) <| AQ 2 rfl zh5 (run_indexAddrA underlying40 sizeOf23 rfl rfl (by omega)) <| AT 3 rfl zh5 (fun w hS => run_ld underlying23 rfl rfl (hS.cell (i := 0) rfl (relC_up _ (by omega)))) <| AT 4 rfl zh5 (fun w hS => run_ldRel underlying42 rfl rfl rfl (hS.blk (i := 0) rfl)) <| A1 5 <| AO.callP rfl gnone rfl hH5 sR (c_relate_points _  _) (run_call1 call89 rfl) <| fun w6 hH7 => A1 6 <| AO.callP rfl gnone rfl hH7 sR (c_mask_Below _  _) (run_call1 call45 rfl) <| fun w8 hH9 => AQ 7 rfl (hH9.sub sR) (run_andU rfl rfl) <| AQ 8 rfl (hH9.sub sR) (aV (U _) rfl) <| AD <| CW.ret <| outP1 Tryd.results95 (congrArg U ?_) hH9.below
 rfl
theorem c_relate_plain (r : Rl) (w : World) : Calls Tryd.prog 79 #[.agg (relC r)] w (Pure (.agg (relC (plainR r))) w) := by
 have hp := pts_bd r
 refine enter Tryd.func79 rfl Tryd.ntmps79 rfl <| have hH := Hp.start w; SR <| RL.new rfl hH (f := fun b => (.pointer (some ⟨b, 0, none⟩))) (run_box (v := .agg _) rfl) <| fun b3 w1 hH2 => RL.new rfl hH2 (f := fun b => (.pointer (some ⟨b, 0, none⟩))) (run_alloc zero_rel) <| fun b6 w4 hH5 => RL.nil <| SR <| V (run_ldRel underlying42 rfl rfl rfl (hH5.blk (i := 1) rfl)) <| RL.callP rfl hH5 (c_relate_points _  _) (run_call1 call89 rfl) <| fun w7 hH8 => V (run_bld (vs := [(0, I _)]) rfl (built_rel _)) <| RL.new rfl hH8 (f := fun b => (.pointer (some ⟨b, 0, none⟩))) (run_alloc zero_rel) <| fun b11 w9 hH10 => RL.set hH10 (i := 0) rfl (run_stRel rfl rfl rfl (hH10.blk (i := 0) rfl)) <| fun w12 hH13 => ?_
 simp only [z2] at hH13
 refine RL.nil <| CW.seq <| SR <| V (fA underlying42 0 rfl sizeOf3 rfl) <| V (run_ld underlying3 rfl rfl (hH13.cell (i := 0) rfl (relC_N _))) <| vm (v := I 0) rfl <| RL.nil <| CW.block <| have hz : (⟨pts r, fun _ => 0#64⟩ : Rl).n = pts r := rfl; CW.loop (G := Int × Rl) (fun ⟨k, r1⟩ s' w' => (Fr (4 :: (rg 10 10 [])) _ s') ∧ (Hp w w' (.blk b11 (.cells (relC r1) 42 (0, 0)) :: _)) ∧ (s' 10 = I k) ∧ (0 ≤ k) ∧ (k ≤ pts r) ∧ (r1 = fillR (pts r) (fun i => rowR r i) k)) (fun ⟨k, r1⟩ => (pts r - k).toNat) ((0, ⟨pts r, fun _ => 0#64⟩)) ⟨Fr.refl _ _, hH13, rfl, (by omega), (by omega), fill_zero _ _⟩ <| ?_
 rintro ⟨k, r1⟩ sg14 w14 ⟨fr14, hH14, e10_14, h0, hk, hr⟩
 have e1_14 := fr14.pp 1 rfl rfl
 have e2_14 := fr14.pp 2 rfl rfl
 have e3_14 := fr14.pp 3 rfl rfl
 have e9_14 := fr14.ii 9 rfl rfl
 have hn : r1.n = pts r := by rw [hr]; rfl
 refine SR <| V (run_lss e10_14 e9_14) <| RL.nil <| CW.seq <| CW.condP rfl (fun h16 => ?_) (fun h16 => ?_)
 ·refine CW.skip <| CW.seq <| CW.block <| SR <| vm e10_14 <| aI rfl <| RL.nil <| CW.region <| mI rfl <| V (run_ldRel underlying42 rfl rfl e1_14 (hH14.blk (i := 2) rfl)) <| mI rfl <| RL.callP rfl hH14 (c_relate_row _ _ (by omega) _) (run_call2 call95 rfl rfl) <| fun w17 hH18 => V (fA underlying42 1 rfl sizeOf40 e3_14) <| V (run_indexAddrA underlying40 sizeOf23 rfl rfl (by omega)) <| RL.set hH18 (i := 0) rfl (run_st rfl rfl (v := U _) rfl rfl rfl (hH18.blk (i := 0) rfl) (by rw [relC_size]; omega)) <| fun w19 hH20 => ?_
  simp only [z2] at hH20
  rw [relC_put] at hH20
  refine RL.nil <| CW.region <| V (run_add e10_14 rfl (by omega)) <| mI rfl <| RL.nil <| ?_
  refine ⟨(k + 1, _), ?_, fr14.u4.u4.u1.u1.u1, hH20, (congrArg I (by rfl)), ?_, ?_, ?_⟩
  ·((try dsimp only); omega)
  ·omega
  ·omega
  ·rw [hr]; exact fill_put h0 (by rw [Int.toNat_of_nonneg h0])
 ·refine CW.exit (id := 0) rfl <| SR <| V (run_ldRel underlying42 rfl rfl e3_14 (hH14.blk (i := 0) rfl)) <| RL.set hH14 (i := 1) rfl (run_stRel rfl e2_14 rfl (hH14.blk (i := 1) rfl)) <| fun w21 hH22 => ?_
  simp only [z2] at hH22
  refine RL.nil <| CW.ret <| outC Tryd.results79 e2_14 hH22 (i := 1) rfl underlying42 rfl rfl ⟨?_, hH22.below⟩
  (rw [hr, show k = pts r by omega]; rfl)
theorem c_relate_Up (r : Rl) (s : BitVec 64) (w : World) (hT : Tab w) : Calls Tryd.prog 86 #[.agg (relC r), U s] w (Pure (U (upR r s)) w) := by
 have hp := pts_bd r
 refine enter Tryd.func86 rfl Tryd.ntmps86 rfl <| have hH := Hp.start w; SR <| RL.new rfl hH (f := fun b => (.pointer (some ⟨b, 0, none⟩))) (run_box (v := .agg _) rfl) <| fun b3 w1 hH2 => va (v := U 0#64) rfl <| RL.nil <| SR <| va (v := U 0#64) rfl <| RL.nil <| CW.seq <| SR <| mU rfl <| V (run_ldRel underlying42 rfl rfl rfl (hH2.blk (i := 0) rfl)) <| RL.callP rfl hH2 (c_relate_points _  _) (run_call1 call89 rfl) <| fun w4 hH5 => RL.callP rfl hH5 (c_mask_Below _  _) (run_call1 call45 rfl) <| fun w6 hH7 => V (run_andU rfl rfl) <| RL.callR rfl hH7 (c_mask_List _  _ (hT.hp hH7)) (run_call1 call59 rfl) <| fun v10 w8 hH9 => V (run_lenSl (hH9.sl (i := 0) rfl) rfl underlying104 rfl) <| vm (v := I 0) rfl <| RL.nil <| CW.block <| have hl := lst_len (s &&& below (pts r)); CW.loop (G := Int) (fun k s' w' => (Fr (5 :: (7 :: (rg 15 10 []))) _ s') ∧ (Hp w w' _) ∧ (s' 5 = U (orAll (rowR r) ((lst (s &&& below (pts r))).take k.toNat))) ∧ (s' 15 = I k) ∧ (0 ≤ k) ∧ (k ≤ (lst (s &&& below (pts r))).length)) (fun k => ((lst (s &&& below (pts r))).length - k).toNat) (0) ⟨Fr.refl _ _, hH9, (congrArg U (by simp [orAll])), rfl, (by omega), (by omega)⟩ <| ?_
 rintro k sg11 w11 ⟨fr11, hH11, e5_11, e15_11, h0, hk⟩
 have e2_11 := fr11.pp 2 rfl rfl
 have e13_11 := (fr11 13 rfl).trans (by conv => lhs; whnf)
 have e14_11 := fr11.ii 14 rfl rfl
 refine SR <| V (run_lss e15_11 e14_11) <| RL.nil <| CW.seq <| CW.condP rfl (fun h13 => ?_) (fun h13 => ?_)
 ·refine CW.skip <| CW.seq <| CW.block <| SR <| V (run_indexAddrS (hH11.sl (i := 0) rfl) underlying104 sizeOf3 e13_11 e15_11 (by omega)) <| V (run_ld underlying3 rfl rfl ((hH11.sl (i := 0) rfl).cell _ _ (map_at (by omega)))) <| aI rfl <| RL.nil <| CW.region <| vm e5_11 <| V (run_ldRel underlying42 rfl rfl e2_11 (hH11.blk (i := 1) rfl)) <| mI rfl <| RL.callP rfl hH11 (c_relate_row _ _ (by exact lst_at_bd (by assumption) (by assumption)) _) (run_call2 call95 rfl rfl) <| fun w14 hH15 => V (run_orU rfl rfl) <| aU rfl <| RL.nil <| CW.region <| V (run_add e15_11 rfl (by omega)) <| mI rfl <| RL.nil <| ?_
  refine ⟨k + 1, ?_, fr11.u4.u4.u4, hH15, (congrArg U (orAll_next h0 ‹_›)), (congrArg I (by rfl)), ?_, ?_⟩
  ·((try dsimp only); omega)
  ·omega
  ·omega
 ·refine CW.exit (id := 0) rfl <| SR <| vm e5_11 <| aU rfl <| RL.nil <| CW.ret <| outP1 Tryd.results86 (congrArg U ?_) hH11.below
  (rw [take_all ‹_›]; rfl)
theorem c_relate_Down (r : Rl) (s : BitVec 64) (w : World) : Calls Tryd.prog 88 #[.agg (relC r), U s] w (Pure (U (downR r s)) w) := by
 have hp := pts_bd r
 refine enter Tryd.func88 rfl Tryd.ntmps88 rfl <| have hH := Hp.start w; SR <| RL.new rfl hH (f := fun b => (.pointer (some ⟨b, 0, none⟩))) (run_box (v := .agg _) rfl) <| fun b3 w1 hH2 => va (v := U 0#64) rfl <| RL.nil <| SR <| va (v := U 0#64) rfl <| RL.nil <| CW.seq <| SR <| V (run_ldRel underlying42 rfl rfl rfl (hH2.blk (i := 0) rfl)) <| RL.callP rfl hH2 (c_relate_points _  _) (run_call1 call89 rfl) <| fun w4 hH5 => vm (v := I 0) rfl <| RL.nil <| CW.block <| CW.loop (G := Int) (fun k s' w' => (Fr (5 :: 6 :: (rg 9 13 [])) _ s') ∧ (Hp w w' _) ∧ (s' 5 = U (downTo r s k)) ∧ (s' 9 = I k) ∧ (0 ≤ k) ∧ (k ≤ pts r)) (fun k => (pts r - k).toNat) (0) ⟨Fr.refl _ _, hH5, (congrArg U (by simp [downTo, bitsTo])), rfl, (by omega), (by omega)⟩ <| ?_
 rintro k sg6 w6 ⟨fr6, hH6, e5_6, e9_6, h0, hk⟩
 have e1_6 := fr6.uu 1 rfl rfl
 have e2_6 := fr6.pp 2 rfl rfl
 have e8_6 := fr6.ii 8 rfl rfl
 refine SR <| V (run_lss e9_6 e8_6) <| RL.nil <| CW.seq <| CW.condP rfl (fun h8 => ?_) (fun h8 => ?_)
 ·refine CW.skip <| CW.seq <| CW.block <| SR <| vm e9_6 <| aI rfl <| RL.nil <| SR <| V (run_ldRel underlying42 rfl rfl e2_6 (hH6.blk (i := 0) rfl)) <| mI rfl <| RL.callP rfl hH6 (c_relate_row _ _ (by omega) _) (run_call2 call95 rfl rfl) <| fun w9 hH10 => vm e1_6 <| V (run_andU rfl rfl) <| V (run_neqU rfl (b := 0#64) rfl) <| RL.nil <| CW.condP rfl (fun h12 => ?_) (fun h12 => ?_)
  ·refine CW.region <| vm e5_6 <| mI rfl <| RL.callP rfl hH10 (c_mask_With _ _  _) (run_call2 call75 rfl rfl) <| fun w13 hH14 => aU rfl <| RL.nil <| CW.region <| V (run_add e9_6 rfl (by omega)) <| mI rfl <| RL.nil <| ?_
   refine ⟨k + 1, ?_, fr6.u4.u4.u4.u1.u1.u1, hH14, (congrArg U (by exact down_yes h0 (by omega) ‹_›)), (congrArg I (by rfl)), ?_, ?_⟩
   ·((try dsimp only); omega)
   ·omega
   ·omega
  ·refine CW.skip <| CW.region <| V (run_add e9_6 rfl (by omega)) <| mI rfl <| RL.nil <| ?_
   refine ⟨k + 1, ?_, fr6.u4.u4.u1.u1.u1, hH10, (Eq.trans e5_6 (congrArg U (by exact down_not h0 ‹_›))), (congrArg I (by rfl)), ?_, ?_⟩
   ·((try dsimp only); omega)
   ·omega
   ·omega
 ·refine CW.exit (id := 0) rfl <| SR <| vm e5_6 <| aU rfl <| RL.nil <| CW.ret <| outP1 Tryd.results88 (congrArg U ?_) hH6.below
  (rw [show k = pts r by omega]; rfl)
theorem c_relate_Closure (r : Rl) (w : World) : Calls Tryd.prog 96 #[.agg (relC r)] w (Pure (.agg (relC (cloR r))) w) := by
 have hp := pts_bd r
 have hn0 : (plainR r).n = pts r := rfl
 refine enter Tryd.func96 rfl Tryd.ntmps96 rfl <| have hH := Hp.start w; SR <| RL.new rfl hH (f := fun b => (.pointer (some ⟨b, 0, none⟩))) (run_box (v := .agg _) rfl) <| fun b3 w1 hH2 => RL.new rfl hH2 (f := fun b => (.pointer (some ⟨b, 0, none⟩))) (run_alloc zero_rel) <| fun b6 w4 hH5 => RL.nil <| SR <| V (run_ldRel underlying42 rfl rfl rfl (hH5.blk (i := 1) rfl)) <| RL.callP rfl hH5 (c_relate_plain _  _) (run_call1 call79 rfl) <| fun w7 hH8 => RL.new rfl hH8 (f := fun b => (.pointer (some ⟨b, 0, none⟩))) (run_alloc zero_rel) <| fun b11 w9 hH10 => RL.set hH10 (i := 0) rfl (run_stRel rfl rfl rfl (hH10.blk (i := 0) rfl)) <| fun w12 hH13 => ?_
 simp only [z2] at hH13
 refine RL.nil <| CW.seq <| SR <| V (fA underlying42 0 rfl sizeOf3 rfl) <| V (run_ld underlying3 rfl rfl (hH13.cell (i := 0) rfl (relC_N _))) <| vm (v := I 0) rfl <| RL.nil <| CW.block <| CW.loop (G := Int × Rl) (fun ⟨k, r1⟩ s' w' => (Fr (4 :: (rg 11 13 [])) _ s') ∧ (Hp w w' (.blk b11 (.cells (relC r1) 42 (0, 0)) :: _)) ∧ (s' 11 = I k) ∧ (0 ≤ k) ∧ (k ≤ pts r) ∧ (r1 = ⟨pts r, selfTo (plainR r).up k⟩)) (fun ⟨k, r1⟩ => (pts r - k).toNat) ((0, plainR r)) ⟨Fr.refl _ _, hH13, rfl, (by omega), (by omega), self_zero _ _⟩ <| ?_
 rintro ⟨k, r1⟩ sg14 w14 ⟨fr14, hH14, e11_14, h0, hk, hr⟩
 have e2_14 := fr14.pp 2 rfl rfl
 have e3_14 := fr14.pp 3 rfl rfl
 have e10_14 := fr14.ii 10 rfl rfl
 have hn : r1.n = pts r := by rw [hr]
 refine SR <| V (run_lss e11_14 e10_14) <| RL.nil <| CW.seq <| CW.condP rfl (fun h16 => ?_) (fun h16 => ?_)
 ·refine CW.skip <| CW.seq <| CW.block <| SR <| vm e11_14 <| aI rfl <| RL.nil <| CW.region <| mI rfl <| mI rfl <| V (fA underlying42 1 rfl sizeOf40 e3_14) <| V (run_indexAddrA underlying40 sizeOf23 rfl rfl (by omega)) <| V (run_ld underlying23 rfl rfl (hH14.cell (i := 0) rfl (relC_up _ (by omega)))) <| mI rfl <| RL.callP rfl hH14 (c_mask_With _ _  _) (run_call2 call75 rfl rfl) <| fun w17 hH18 => V (fA underlying42 1 rfl sizeOf40 e3_14) <| V (run_indexAddrA underlying40 sizeOf23 rfl rfl (by omega)) <| RL.set hH18 (i := 0) rfl (run_st rfl rfl (v := U _) rfl rfl rfl (hH18.blk (i := 0) rfl) (by rw [relC_size]; omega)) <| fun w19 hH20 => ?_
  simp only [z2] at hH20
  rw [relC_put] at hH20
  refine RL.nil <| CW.region <| V (run_add e11_14 rfl (by omega)) <| mI rfl <| RL.nil <| ?_
  refine ⟨(k + 1, _), ?_, fr14.u4.u4.u4.u1.u1, hH20, (congrArg I (by rfl)), ?_, ?_, ?_⟩
  ·((try dsimp only); omega)
  ·omega
  ·omega
  ·rw [hr]; exact self_put h0
 ·refine CW.exit (id := 0) rfl <| CW.seq <| SR <| V (fA underlying42 0 rfl sizeOf3 e3_14) <| V (run_ld underlying3 rfl rfl (hH14.cell (i := 0) rfl (relC_N _))) <| vm (v := I 0) rfl <| RL.nil <| CW.block <| CW.loop (G := Int × Rl) (fun ⟨m, r2⟩ s' w' => (Fr (5 :: 6 :: (rg 26 27 [])) _ s') ∧ (Hp w w' (.blk b11 (.cells (relC r2) 42 (0, 0)) :: _)) ∧ (s' 26 = I m) ∧ (0 ≤ m) ∧ (m ≤ pts r) ∧ (r2 = ⟨pts r, wall (pts r) (selfTo (plainR r).up (pts r)) m.toNat⟩)) (fun ⟨m, r2⟩ => (pts r - m).toNat) ((0, r1)) ⟨Fr.refl _ _, hH14, rfl, (by omega), (by omega), (by rw [hr, show k = pts r by omega]; rfl)⟩ <| ?_
  rintro ⟨m, r2⟩ sg21 w21 ⟨fr21, hH21, e26_21, m0, m1, hr2⟩
  have e2_21 := (fr21 2 rfl).trans e2_14
  have e3_21 := (fr21 3 rfl).trans e3_14
  have e25_21 := fr21.ii 25 rfl rfl
  have hn2 : r2.n = pts r := by rw [hr2]
  refine SR <| V (run_lss e26_21 e25_21) <| RL.nil <| CW.seq <| CW.condP rfl (fun h23 => ?_) (fun h23 => ?_)
  ·refine CW.skip <| CW.seq <| CW.block <| SR <| vm e26_21 <| aI rfl <| RL.nil <| SR <| V (fA underlying42 0 rfl sizeOf3 e3_21) <| V (run_ld underlying3 rfl rfl (hH21.cell (i := 0) rfl (relC_N _))) <| vm (v := I 0) rfl <| RL.nil <| CW.block <| CW.loop (G := Int × Rl) (fun ⟨i, r3⟩ s' w' => (Fr (6 :: (rg 31 21 [])) _ s') ∧ (Hp w w' (.blk b11 (.cells (relC r3) 42 (0, 0)) :: _)) ∧ (s' 31 = I i) ∧ (0 ≤ i) ∧ (i ≤ pts r) ∧ (r3 = ⟨pts r, passTo m.toNat i r2.up⟩)) (fun ⟨i, r3⟩ => (pts r - i).toNat) ((0, r2)) ⟨Fr.refl _ _, hH21, rfl, (by omega), (by omega), (by rw [hr2]; exact pass_zero _ _ _)⟩ <| ?_
   rintro ⟨i, r3⟩ sg24 w24 ⟨fr24, hH24, e31_24, i0, i1, hr3⟩
   have e3_24 := (fr24 3 rfl).trans e3_21
   have e5_24 := fr24.ii 5 rfl rfl
   have e26_24 := (fr24 26 rfl).trans e26_21
   have e30_24 := fr24.ii 30 rfl rfl
   have hn3 : r3.n = pts r := by rw [hr3]
   refine SR <| V (run_lss e31_24 e30_24) <| RL.nil <| CW.seq <| CW.condP rfl (fun h26 => ?_) (fun h26 => ?_)
   ·refine CW.skip <| CW.seq <| CW.block <| SR <| vm e31_24 <| aI rfl <| RL.nil <| SR <| mI rfl <| V (fA underlying42 1 rfl sizeOf40 e3_24) <| V (run_indexAddrA underlying40 sizeOf23 rfl rfl (by omega)) <| V (run_ld underlying23 rfl rfl (hH24.cell (i := 0) rfl (relC_up _ (by omega)))) <| vm e5_24 <| RL.callP rfl hH24 (c_mask_Has _ _  _) (run_call2 call100 rfl rfl) <| fun w27 hH28 => RL.nil <| CW.cond rfl (fun h30 => ?_) (fun h30 => ?_)
    ·refine CW.regionS (by kernel_rfl) hH28 (sQ sR) <| fun w31 hH32 => have zh32 := hH32.sub (sQ sR); AQ 0 rfl zh32 (mV (I _) rfl) <| AQ 1 rfl zh32 (fA underlying42 1 rfl sizeOf40 e3_24) <| AQ 2 rfl zh32 (run_indexAddrA underlying40 sizeOf23 rfl rfl (by omega)) <| AQ 4 rfl zh32 (run_move e5_24) <| AQ 5 rfl zh32 (fA underlying42 1 rfl sizeOf40 e3_24) <| AQ 6 rfl zh32 (run_indexAddrA underlying40 sizeOf23 rfl rfl (by omega)) <| AQ 9 rfl zh32 (fA underlying42 1 rfl sizeOf40 e3_24) <| AN.two 3 7 (by kernel_rfl) ?_ ?_
     ·refine AO.read rfl gnone rfl hH32 (sQ sR) (run_ld underlying23 rfl rfl (hH32.cell (i := 0) rfl (relC_up _ (by omega)))) <| A1 7 <| AO.read rfl gnone rfl hH32 (sQ sR) (run_ld underlying23 rfl rfl (hH32.cell (i := 0) rfl (relC_up _ (by omega)))) <| AQ 8 rfl zh32 (run_orU rfl rfl) <| AQ 10 rfl zh32 (run_indexAddrA underlying40 sizeOf23 rfl rfl (by omega)) <| A1 11 <| AO.set rfl gnone hH32 (j := 0) rfl (sQ sR) (run_st rfl rfl (v := U _) rfl rfl rfl (hH32.blk (i := 0) rfl) (by rw [relC_size]; omega)) <| fun w39 hH40 => ?_
      simp only [z2] at hH40
      rw [relC_put] at hH40
      refine AD <| CW.region <| V (run_add e31_24 rfl (by omega)) <| mI rfl <| RL.nil <| ?_
      refine ⟨(i + 1, _), ?_, fr24.u4.u4.u4.u4.u4.u1.u1, hH40, (congrArg I (by rfl)), ?_, ?_, ?_⟩
      ·((try dsimp only); omega)
      ·omega
      ·omega
      ·(rw [hr3] at *; exact pass_yes m0 i0 ‹_›)
     ·refine AO.read rfl gnone rfl hH32 (sQ sR) (run_ld underlying23 rfl rfl (hH32.cell (i := 0) rfl (relC_up _ (by omega)))) <| A1 3 <| AO.read rfl gnone rfl hH32 (sQ sR) (run_ld underlying23 rfl rfl (hH32.cell (i := 0) rfl (relC_up _ (by omega)))) <| AQ 8 rfl zh32 (run_orU rfl rfl) <| AQ 10 rfl zh32 (run_indexAddrA underlying40 sizeOf23 rfl rfl (by omega)) <| A1 11 <| AO.set rfl gnone hH32 (j := 0) rfl (sQ sR) (run_st rfl rfl (v := U _) rfl rfl rfl (hH32.blk (i := 0) rfl) (by rw [relC_size]; omega)) <| fun w47 hH48 => ?_
      simp only [z2] at hH48
      rw [relC_put] at hH48
      refine AD <| CW.region <| V (run_add e31_24 rfl (by omega)) <| mI rfl <| RL.nil <| ?_
      refine ⟨(i + 1, _), ?_, fr24.u4.u4.u4.u4.u4.u1.u1, hH48, (congrArg I (by rfl)), ?_, ?_, ?_⟩
      ·((try dsimp only); omega)
      ·omega
      ·omega
      ·(rw [hr3] at *; exact pass_yes m0 i0 ‹_›)
    ·refine CW.skip <| CW.region <| V (run_add e31_24 rfl (by omega)) <| mI rfl <| RL.nil <| ?_
     refine ⟨(i + 1, _), ?_, fr24.u4.u4.u1.u1.u1, hH28, (congrArg I (by rfl)), ?_, ?_, ?_⟩
     ·((try dsimp only); omega)
     ·omega
     ·omega
     ·(rw [hr3] at *; exact pass_not ⟨m0, by omega⟩ i0 ‹_›)
   ·refine CW.exit (id := 4) rfl <| CW.region <| V (run_add e26_24 rfl (by omega)) <| mI rfl <| RL.nil <| ?_
    refine ⟨(m + 1, _), ?_, (((fr21.u4.u1.u1).t fr24 rfl)).u1.u1.u1, hH24, (congrArg I (by rfl)), ?_, ?_, ?_⟩
    ·((try dsimp only); omega)
    ·omega
    ·omega
    ·rw [hr3, hr2, show i = pts r by omega]; exact wall_next m0
  ·refine CW.exit (id := 2) rfl <| SR <| V (run_ldRel underlying42 rfl rfl e3_21 (hH21.blk (i := 0) rfl)) <| RL.set hH21 (i := 1) rfl (run_stRel rfl e2_21 rfl (hH21.blk (i := 1) rfl)) <| fun w49 hH50 => ?_
   simp only [z2] at hH50
   refine RL.nil <| CW.ret <| outC Tryd.results96 e2_21 hH50 (i := 1) rfl underlying42 rfl rfl ⟨?_, hH50.below⟩
   (rw [hr2, show m = pts r by omega]; rfl)
theorem c_relate_Same (a b : Rl) (w : World) : Calls Tryd.prog 64 #[.agg (relC a), .agg (relC b)] w (Pure (B (decide ((plainR a).eq (plainR b)))) w) := by
 refine enter Tryd.func64 rfl Tryd.ntmps64 rfl <| have hH := Hp.start w; SR <| RL.new rfl hH (f := fun b => (.pointer (some ⟨b, 0, none⟩))) (run_box (v := .agg _) rfl) <| fun b3 w1 hH2 => RL.new rfl hH2 (f := fun b => (.pointer (some ⟨b, 0, none⟩))) (run_box (v := .agg _) rfl) <| fun b6 w4 hH5 => va (v := B false) rfl <| RL.nil <| CW.seq <| CW.regionD (by kernel_rfl) hH5 <| fun w7 hH8 => AT 0 rfl (hH8.sub sR) (fun w hS => run_ldRel underlying42 rfl rfl rfl (hS.blk (i := 1) rfl)) <| AT 2 rfl (hH8.sub sR) (fun w hS => run_ldRel underlying42 rfl rfl rfl (hS.blk (i := 0) rfl)) <| A1 1 <| AO.callP rfl gnone rfl hH8 sR (c_relate_plain _  _) (run_call1 call79 rfl) <| fun w9 hH10 => A1 3 <| AO.callP rfl gnone rfl hH10 sR (c_relate_plain _  _) (run_call1 call79 rfl) <| fun w11 hH12 => AQ 4 rfl (hH12.sub sR) (run_eqlRel relT_fact rfl rfl) <| AQ 5 rfl (hH12.sub sR) (aV (B _) rfl) <| AD <| CW.ret <| outP1 Tryd.results64 (congrArg B ?_) hH12.below
 rfl
theorem c_relate_Closed (r : Rl) (w : World) : Calls Tryd.prog 80 #[.agg (relC r)] w (Pure (B (decide ((plainR r).eq (cloR r)))) w) := by
 refine enter Tryd.func80 rfl Tryd.ntmps80 rfl <| have hH := Hp.start w; SR <| RL.new rfl hH (f := fun b => (.pointer (some ⟨b, 0, none⟩))) (run_box (v := .agg _) rfl) <| fun b3 w1 hH2 => va (v := B false) rfl <| RL.nil <| CW.seq <| CW.regionD (by kernel_rfl) hH2 <| fun w4 hH5 => AT 0 rfl (hH5.sub sR) (fun w hS => run_ldRel underlying42 rfl rfl rfl (hS.blk (i := 0) rfl)) <| AT 2 rfl (hH5.sub sR) (fun w hS => run_ldRel underlying42 rfl rfl rfl (hS.blk (i := 0) rfl)) <| A1 1 <| AO.callP rfl gnone rfl hH5 sR (c_relate_plain _  _) (run_call1 call79 rfl) <| fun w6 hH7 => A1 3 <| AO.callP rfl gnone rfl hH7 sR (c_relate_Closure _  _) (run_call1 call96 rfl) <| fun w8 hH9 => AQ 4 rfl (hH9.sub sR) (run_eqlRel relT_fact rfl rfl) <| AQ 5 rfl (hH9.sub sR) (aV (B _) rfl) <| AD <| CW.ret <| outP1 Tryd.results80 (congrArg B ?_) hH9.below
 rfl
theorem c_relate_New (n : Int) (w : World) : Calls Tryd.prog 68 #[I n] w (Pure (.agg (relC (newR n))) w) := by
 refine enter Tryd.func68 rfl Tryd.ntmps68 rfl <| have hH := Hp.start w; SR <| RL.new rfl hH (f := fun b => (.pointer (some ⟨b, 0, none⟩))) (run_alloc zero_rel) <| fun b3 w1 hH2 => RL.nil <| SR <| mI rfl <| V (run_bld (vs := [(0, I _)]) rfl (built_rel _)) <| RL.callP rfl hH2 (c_relate_points _  _) (run_call1 call89 rfl) <| fun w4 hH5 => V (run_bld (vs := [(0, I _)]) rfl (built_rel _)) <| RL.set hH5 (i := 0) rfl (run_stRel rfl rfl rfl (hH5.blk (i := 0) rfl)) <| fun w6 hH7 => ?_
 simp only [z2] at hH7
 refine RL.nil <| CW.ret <| outC Tryd.results68 rfl hH7 (i := 0) rfl underlying42 rfl rfl ⟨?_, hH7.below⟩
 rfl
theorem c_relate_mutual (r : Rl) (i : Int) (w : World) (hT : Tab w) : Calls Tryd.prog 97 #[.agg (relC r), I i] w (Pure (U (mutualR r i)) w) := by
 refine enter Tryd.func97 rfl Tryd.ntmps97 rfl <| have hH := Hp.start w; SR <| RL.new rfl hH (f := fun b => (.pointer (some ⟨b, 0, none⟩))) (run_box (v := .agg _) rfl) <| fun b3 w1 hH2 => va (v := U 0#64) rfl <| RL.nil <| SR <| mI rfl <| RL.new rfl hH2 (f := fun b => (.slice (some ⟨b, 0, none⟩) 1 1)) (run_mkL underlying104 rfl rfl (sz := 1) (vs := [I _]) rfl rfl (by decide) (by decide) rfl rfl) <| fun b6 w4 hH5 => ?_
 (try simp only [clX] at hH5)
 refine RL.callP rfl hH5 (c_mask_Of _ [i] _ (hH5.slBlk (i := 0) (n := 1) (sz := 1) rfl rfl (by decide))) (run_call1 call87 rfl) <| fun w7 hH8 => aU rfl <| RL.nil <| CW.seq <| CW.regionD (by kernel_rfl) hH8 <| fun w9 hH10 => have zh10 := hH10.sub sR; AT 0 rfl zh10 (fun w hS => run_ldRel underlying42 rfl rfl rfl (hS.blk (i := 1) rfl)) <| AQ 1 rfl zh10 (mV (U _) rfl) <| AT 3 rfl zh10 (fun w hS => run_ldRel underlying42 rfl rfl rfl (hS.blk (i := 1) rfl)) <| AQ 4 rfl zh10 (mV (U _) rfl) <| A1 2 <| AO.callP rfl gnone rfl hH10 sR (c_relate_Up _ _  _ (hT.hp hH10)) (run_call2 call86 rfl rfl) <| fun w11 hH12 => A1 5 <| AO.callP rfl gnone rfl hH12 sR (c_relate_Down _ _  _) (run_call2 call88 rfl rfl) <| fun w13 hH14 => AQ 6 rfl (hH14.sub sR) (run_andU rfl rfl) <| AQ 7 rfl (hH14.sub sR) (aV (U _) rfl) <| AD <| CW.ret <| outP1 Tryd.results97 (congrArg U ?_) hH14.below
 rfl
theorem c_relate_Order (r : Rl) (w : World) (hT : Tab w) : Calls Tryd.prog 81 #[.agg (relC r)] w (Pure (B (orderB r)) w) := by
 have hp := pts_bd r
 refine enter Tryd.func81 rfl Tryd.ntmps81 rfl <| have hH := Hp.start w; SR <| RL.new rfl hH (f := fun b => (.pointer (some ⟨b, 0, none⟩))) (run_box (v := .agg _) rfl) <| fun b3 w1 hH2 => va (v := B false) rfl <| RL.nil <| CW.seq <| SR <| V (run_ldRel underlying42 rfl rfl rfl (hH2.blk (i := 0) rfl)) <| RL.callP rfl hH2 (c_relate_Closed _  _) (run_call1 call80 rfl) <| fun w4 hH5 => V (run_notP rfl) <| RL.nil <| CW.condP rfl (fun h9 => ?_) (fun h9 => ?_)
 ·refine SR <| va (v := B false) rfl <| RL.nil <| CW.ret <| outP1 Tryd.results81 (congrArg B ?_) hH5.below
  exact (order_no0 ‹_›).symm
 ·refine CW.skip <| CW.seq <| SR <| V (run_ldRel underlying42 rfl rfl rfl (hH5.blk (i := 0) rfl)) <| RL.callP rfl hH5 (c_relate_points _  _) (run_call1 call89 rfl) <| fun w10 hH11 => vm (v := I 0) rfl <| RL.nil <| CW.block <| have hc := Decidable.of_not_not ‹¬ ¬ (plainR r).eq (cloR r)›; CW.loop (G := Int) (fun k s' w' => (Fr (2 :: 3 :: (rg 9 11 [])) _ s') ∧ (Hp w w' _) ∧ (s' 9 = I k) ∧ (0 ≤ k) ∧ (k ≤ pts r) ∧ (∀ j : Int, 0 ≤ j → j < k → mutualR r j = ofl [j])) (fun k => (pts r - k).toNat) (0) ⟨Fr.refl _ _, hH11, rfl, (by omega), (by omega), fun j a b => absurd b (by omega)⟩ <| ?_
  rintro k sg12 w12 ⟨fr12, hH12, e9_12, h0, hk, hf⟩
  have e1_12 := fr12.pp 1 rfl rfl
  have e8_12 := fr12.ii 8 rfl rfl
  refine SR <| V (run_lss e9_12 e8_12) <| RL.nil <| CW.seq <| CW.condP rfl (fun h14 => ?_) (fun h14 => ?_)
  ·refine CW.skip <| CW.seq <| CW.block <| SR <| vm e9_12 <| aI rfl <| RL.nil <| SR <| V (run_ldRel underlying42 rfl rfl e1_12 (hH12.blk (i := 0) rfl)) <| mI rfl <| RL.callP rfl hH12 (c_relate_mutual _ _  _ (hT.hp hH12)) (run_call2 call97 rfl rfl) <| fun w15 hH16 => mI rfl <| RL.new rfl hH16 (f := fun b => (.slice (some ⟨b, 0, none⟩) 1 1)) (run_mkL underlying104 rfl rfl (sz := 1) (vs := [I _]) rfl rfl (by decide) (by decide) rfl rfl) <| fun b19 w17 hH18 => ?_
   (try simp only [clX] at hH18)
   refine RL.callP rfl hH18 (c_mask_Of _ [k] _ (hH18.slBlk (i := 0) (n := 1) (sz := 1) rfl rfl (by decide))) (run_call1 call87 rfl) <| fun w20 hH21 => V (run_neqU rfl rfl) <| RL.nil <| CW.condP rfl (fun h23 => ?_) (fun h23 => ?_)
   ·refine SR <| va (v := B false) rfl <| RL.nil <| CW.ret <| outP1 Tryd.results81 (congrArg B ?_) hH21.below
    exact (order_no hc ⟨h0, by omega⟩ ‹_›).symm
   ·refine CW.skip <| CW.region <| V (run_add e9_12 rfl (by omega)) <| mI rfl <| RL.nil <| ?_
    refine ⟨k + 1, ?_, fr12.u4.u4.u4, (hH21.sub (sQ sR)), (congrArg I (by rfl)), ?_, ?_, ?_⟩
    ·((try dsimp only); omega)
    ·omega
    ·omega
    ·exact fun j a b => if e : j = k then e ▸ Decidable.of_not_not ‹_› else hf j a (by omega)
  ·refine CW.exit (id := 0) rfl <| SR <| va (v := B true) rfl <| RL.nil <| CW.ret <| outP1 Tryd.results81 (congrArg B ?_) hH12.below
   exact (order_yes hc fun j a b => hf j a (by omega)).symm
theorem c_hasse_in (r : Rl) (i : Int) (w : World) : Calls Tryd.prog 90 #[.agg (relC r), I i] w (Pure (B (isP r i)) w) := by
 have hp := pts_bd r
 have hnn : (newR r.n).n = pts r := rfl
 refine enter Tryd.func90 rfl Tryd.ntmps90 rfl <| have hH := Hp.start w; SR <| RL.new rfl hH (f := fun b => (.pointer (some ⟨b, 0, none⟩))) (run_box (v := .agg _) rfl) <| fun b3 w1 hH2 => va (v := B false) rfl <| RL.nil <| SR <| mI rfl <| V (run_geq rfl rfl) <| mB rfl <| RL.splitP (dj := 7) rfl (fun h5 => ?_) (fun h5 => ?_)
 ·refine gT rfl (bT h5) <| mI rfl <| gT rfl (bT h5) <| V (fA underlying42 0 rfl sizeOf3 rfl) <| gT rfl (bT h5) <| V (run_ld underlying3 rfl rfl (hH2.cell (i := 0) rfl (relC_N _))) <| gT rfl (bT h5) <| RL.callP rfl hH2 (c_relate_New _  _) (run_call1 call68 rfl) <| fun w6 hH7 => gT rfl (bT h5) <| V (run_field underlying42 rfl isAgg3 rfl (relC_N _)) <| gT rfl (bT h5) <| V (run_lss rfl rfl) <| V (run_pickT (bT h5) (v := B _) rfl) <| aB rfl <| RL.nil <| CW.ret <| outP1 Tryd.results90 (congrArg B ?_) hH7.below
  (rw [isP, Bool.eq_iff_iff]; simp only [decide_eq_true_eq, Bool.false_eq_true, false_iff]; omega)
 ·refine gF rfl (bF h5) <| gF rfl (bF h5) <| gF rfl (bF h5) <| gF rfl (bF h5) <| gF rfl (bF h5) <| gF rfl (bF h5) <| V (run_pickF (bF h5) (v := B false) rfl) <| aB rfl <| RL.nil <| CW.ret <| outP1 Tryd.results90 (congrArg B ?_) hH2.below
  (rw [isP, Bool.eq_iff_iff]; simp only [decide_eq_true_eq, Bool.false_eq_true, false_iff]; omega)
theorem c_hasse_above (r : Rl) (i : Int) (w : World) (hT : Tab w) : Calls Tryd.prog 70 #[.agg (relC r), I i] w (Pure (U (aboveR r i)) w) := by
 refine enter Tryd.func70 rfl Tryd.ntmps70 rfl <| have hH := Hp.start w; SR <| RL.new rfl hH (f := fun b => (.pointer (some ⟨b, 0, none⟩))) (run_box (v := .agg _) rfl) <| fun b3 w1 hH2 => va (v := U 0#64) rfl <| RL.nil <| CW.seq <| CW.regionD (by kernel_rfl) hH2 <| fun w4 hH5 => AT 0 rfl (hH5.sub sR) (fun w hS => run_ldRel underlying42 rfl rfl rfl (hS.blk (i := 0) rfl)) <| AQ 1 rfl (hH5.sub sR) (mV (I _) rfl) <| A1 2 <| AO.new rfl gnone rfl hH5 sR (f := fun b => .slice (some ⟨b, 0, none⟩) 1 1) (run_mkL underlying104 rfl rfl (sz := 1) (vs := [I _]) rfl rfl (by decide) (by decide) rfl rfl) <| fun b8 w6 hH7 => ?_
 (try simp only [clX] at hH7)
 refine A1 3 <| AO.callP rfl gnone rfl hH7 (sQ sR) (c_mask_Of _ [i] _ (hH7.slBlk (i := 0) (n := 1) (sz := 1) rfl rfl (by decide))) (run_call1 call87 rfl) <| fun w9 hH10 => A1 4 <| AO.callP rfl gnone rfl hH10 (sQ sR) (c_relate_Up _ _  _ (hT.hp hH10)) (run_call2 call86 rfl rfl) <| fun w11 hH12 => AQ 5 rfl (hH12.sub (sQ sR)) (aV (U _) rfl) <| AD <| CW.ret <| outP1 Tryd.results70 (congrArg U ?_) hH12.below
 rfl
theorem c_hasse_below (r : Rl) (i : Int) (w : World) (hT : Tab w) : Calls Tryd.prog 71 #[.agg (relC r), I i] w (Pure (U (belowR r i)) w) := by
 refine enter Tryd.func71 rfl Tryd.ntmps71 rfl <| have hH := Hp.start w; SR <| RL.new rfl hH (f := fun b => (.pointer (some ⟨b, 0, none⟩))) (run_box (v := .agg _) rfl) <| fun b3 w1 hH2 => va (v := U 0#64) rfl <| RL.nil <| CW.seq <| SR <| V (run_ldRel underlying42 rfl rfl rfl (hH2.blk (i := 0) rfl)) <| mI rfl <| RL.callP rfl hH2 (c_hasse_in _ _  _) (run_call2 call90 rfl rfl) <| fun w4 hH5 => V (run_not rfl) <| RL.nil <| CW.cond rfl (fun h8 => ?_) (fun h8 => ?_)
 ·refine SR <| va (v := U 0#64) rfl <| RL.nil <| CW.ret <| outP1 Tryd.results71 (congrArg U ?_) hH5.below
  rw [belowR, if_neg (by simpa using ‹(!isP r i) = true›)]
 ·refine CW.skip <| CW.seq <| CW.regionD (by kernel_rfl) hH5 <| fun w9 hH10 => AT 0 rfl (hH10.sub sR) (fun w hS => run_ldRel underlying42 rfl rfl rfl (hS.blk (i := 0) rfl)) <| AQ 1 rfl (hH10.sub sR) (mV (I _) rfl) <| A1 2 <| AO.new rfl gnone rfl hH10 sR (f := fun b => .slice (some ⟨b, 0, none⟩) 1 1) (run_mkL underlying104 rfl rfl (sz := 1) (vs := [I _]) rfl rfl (by decide) (by decide) rfl rfl) <| fun b13 w11 hH12 => ?_
  (try simp only [clX] at hH12)
  refine A1 3 <| AO.callP rfl gnone rfl hH12 (sQ sR) (c_mask_Of _ [i] _ (hH12.slBlk (i := 0) (n := 1) (sz := 1) rfl rfl (by decide))) (run_call1 call87 rfl) <| fun w14 hH15 => A1 4 <| AO.callP rfl gnone rfl hH15 (sQ sR) (c_relate_Down _ _  _) (run_call2 call88 rfl rfl) <| fun w16 hH17 => AQ 5 rfl (hH17.sub (sQ sR)) (aV (U _) rfl) <| AD <| CW.ret <| outP1 Tryd.results71 (congrArg U ?_) hH17.below
  rw [belowR, if_pos (by simpa using ‹(!isP r i) = false›)]
theorem c_hasse_nearest (r : Rl) (i j : Int) (f : FuncId) (gg : Int → BitVec 64) (w : World) (hf : ∀ args w, (callFunc f args).run Tryd.prog w = .ok (.enter f args) w) (go : ∀ i w, Tab w → Calls Tryd.prog f #[.agg (relC r), I i] w (Pure (U (gg i)) w)) (hn : ∀ u, hasB (gg i &&& gg j) u = true → u < pts r) (hT : Tab w) : Calls Tryd.prog 98 #[.agg (relC r), I i, I j, .func (.func f) #[] #[]] w (Pure (.tuple #[I (nearV gg (pts r) i j).1, B (nearV gg (pts r) i j).2]) w) := by
 have hl := lst_len (gg i &&& gg j)
 refine enter Tryd.func98 rfl Tryd.ntmps98 rfl <| have hH := Hp.start w; SR <| RL.new rfl hH (f := fun b => (.pointer (some ⟨b, 0, none⟩))) (run_box (v := .agg _) rfl) <| fun b3 w1 hH2 => va (v := I 0) rfl <| va (v := B false) rfl <| RL.nil <| CW.seq <| CW.regionD (by kernel_rfl) hH2 <| fun w4 hH5 => have zh5 := hH5.sub sR; AQ 0 rfl zh5 (mV (.func _ _ _) rfl) <| AT 1 rfl zh5 (fun w hS => run_ldRel underlying42 rfl rfl rfl (hS.blk (i := 0) rfl)) <| AQ 2 rfl zh5 (mV (I _) rfl) <| AQ 4 rfl zh5 (mV (.func _ _ _) rfl) <| AT 5 rfl zh5 (fun w hS => run_ldRel underlying42 rfl rfl rfl (hS.blk (i := 0) rfl)) <| AQ 6 rfl zh5 (mV (I _) rfl) <| A1 3 <| AO.callP rfl gnone rfl hH5 sR (go _ _ (hT.hp hH5)) (run_callC2 hf (cs := []) rfl rfl rfl) <| fun w6 hH7 => A1 7 <| AO.callP rfl gnone rfl hH7 sR (go _ _ (hT.hp hH7)) (run_callC2 hf (cs := []) rfl rfl rfl) <| fun w8 hH9 => AQ 8 rfl (hH9.sub sR) (run_andU rfl rfl) <| AQ 9 rfl (hH9.sub sR) (aV (U _) rfl) <| AD <| CW.seq <| SR <| mU rfl <| RL.callR rfl hH9 (c_mask_List _  _ (hT.hp hH9)) (run_call1 call59 rfl) <| fun v12 w10 hH11 => V (run_lenSl (hH11.sl (i := 0) rfl) rfl underlying104 rfl) <| vm (v := I 0) rfl <| RL.nil <| CW.block <| CW.loop (G := Int) (fun a s' w' => (Fr (8 :: 9 :: (12 :: (rg 25 12 []))) _ s') ∧ (Hp w w' _) ∧ (s' 25 = I a) ∧ (0 ≤ a) ∧ (a ≤ (lst (gg i &&& gg j)).length) ∧ (∀ b : Int, 0 ≤ b → b < a → subB (gg i &&& gg j) (gg ((lst (gg i &&& gg j)).getD b.toNat 0)) = false)) (fun a => ((lst (gg i &&& gg j)).length - a).toNat) (0) ⟨Fr.refl _ _, hH11, rfl, (by omega), (by omega), fun b x y => absurd y (by omega)⟩ <| ?_
 rintro a sg13 w13 ⟨fr13, hH13, e25_13, a0, a1, hg⟩
 have e3_13 := fr13.vv 3 (a := .func _ _ _) rfl rfl
 have e4_13 := fr13.pp 4 rfl rfl
 have e10_13 := fr13.uu 10 rfl rfl
 have e23_13 := (fr13 23 rfl).trans (by conv => lhs; whnf)
 have e24_13 := fr13.ii 24 rfl rfl
 refine SR <| V (run_lss e25_13 e24_13) <| RL.nil <| CW.seq <| CW.condP rfl (fun h15 => ?_) (fun h15 => ?_)
 ·refine CW.skip <| CW.seq <| CW.block <| SR <| V (run_indexAddrS (hH13.sl (i := 0) rfl) underlying104 sizeOf3 e23_13 e25_13 (by omega)) <| V (run_ld underlying3 rfl rfl ((hH13.sl (i := 0) rfl).cell _ _ (map_at (by omega)))) <| aI rfl <| RL.nil <| SR <| vm e10_13 <| vm e3_13 <| V (run_ldRel underlying42 rfl rfl e4_13 (hH13.blk (i := 1) rfl)) <| mI rfl <| RL.callP rfl hH13 (go _ _ (hT.hp hH13)) (run_callC2 hf (cs := []) rfl rfl rfl) <| fun w16 hH17 => RL.callP rfl hH17 (c_mask_Sub _ _  _) (run_call2 call35 rfl rfl) <| fun w18 hH19 => RL.nil <| CW.cond rfl (fun h21 => ?_) (fun h21 => ?_)
  ·refine SR <| mI rfl <| aI rfl <| va (v := B true) rfl <| RL.nil <| CW.ret <| ?_
   refine outP2 Tryd.results98 (congrArg I ?_) (congrArg B ?_) hH19.below <;> rw [near_yes hn a0 ‹_› ‹_› hg]
  ·refine CW.skip <| CW.region <| V (run_add e25_13 rfl (by omega)) <| mI rfl <| RL.nil <| ?_
   refine ⟨a + 1, ?_, fr13.u4.u4.u4, hH19, (congrArg I (by rfl)), ?_, ?_, ?_⟩
   ·((try dsimp only); omega)
   ·omega
   ·omega
   ·exact fun b x y => if e : b = a then e ▸ ‹_› else hg b x (by omega)
 ·refine CW.exit (id := 0) rfl <| SR <| va (v := I 0) rfl <| va (v := B false) rfl <| RL.nil <| CW.ret <| ?_
  refine outP2 Tryd.results98 (congrArg I ?_) (congrArg B ?_) hH13.below <;> rw [near_no ‹_› hg]
theorem c_hasse_Join (r : Rl) (i j : Int) (w : World) (hT : Tab w) : Calls Tryd.prog 82 #[.agg (relC r), I i, I j] w (Pure (.tuple #[I (joinV r i j).1, B (joinV r i j).2]) w) := by
 refine enter Tryd.func82 rfl Tryd.ntmps82 rfl <| have hH := Hp.start w; SR <| RL.new rfl hH (f := fun b => (.pointer (some ⟨b, 0, none⟩))) (run_box (v := .agg _) rfl) <| fun b3 w1 hH2 => va (v := I 0) rfl <| va (v := B false) rfl <| RL.nil <| SR <| V (run_ldRel underlying42 rfl rfl rfl (hH2.blk (i := 0) rfl)) <| mI rfl <| mI rfl <| RL.callP rfl hH2 (c_hasse_nearest r i j 70 (aboveR r) _ call70 (fun i w h => c_hasse_above r i w h) (fun u h => above_in h) (hT.hp hH2)) (run_call4 call98 rfl rfl rfl rfl) <| fun w4 hH5 => V (run_extract rfl (v := I _) rfl) <| V (run_extract rfl (v := B _) rfl) <| aI rfl <| aB rfl <| RL.nil <| CW.ret <| outP2 Tryd.results82 (congrArg I ?_) (congrArg B ?_) hH5.below
 all_goals rfl
theorem c_hasse_Meet (r : Rl) (i j : Int) (w : World) (hT : Tab w) : Calls Tryd.prog 83 #[.agg (relC r), I i, I j] w (Pure (.tuple #[I (meetV r i j).1, B (meetV r i j).2]) w) := by
 refine enter Tryd.func83 rfl Tryd.ntmps83 rfl <| have hH := Hp.start w; SR <| RL.new rfl hH (f := fun b => (.pointer (some ⟨b, 0, none⟩))) (run_box (v := .agg _) rfl) <| fun b3 w1 hH2 => va (v := I 0) rfl <| va (v := B false) rfl <| RL.nil <| SR <| V (run_ldRel underlying42 rfl rfl rfl (hH2.blk (i := 0) rfl)) <| mI rfl <| mI rfl <| RL.callP rfl hH2 (c_hasse_nearest r i j 71 (belowR r) _ call71 (fun i w h => c_hasse_below r i w h) (fun u h => below_inR h) (hT.hp hH2)) (run_call4 call98 rfl rfl rfl rfl) <| fun w4 hH5 => V (run_extract rfl (v := I _) rfl) <| V (run_extract rfl (v := B _) rfl) <| aI rfl <| aB rfl <| RL.nil <| CW.ret <| outP2 Tryd.results83 (congrArg I ?_) (congrArg B ?_) hH5.below
 all_goals rfl
theorem c_hasse_Word (r : Rl) (i : Int) (w : World) (hT : Tab w) : Calls Tryd.prog 51 #[.agg (relC r), I i] w (Pure (U (belowR r i)) w) := by
 refine enter Tryd.func51 rfl Tryd.ntmps51 rfl <| have hH := Hp.start w; SR <| RL.new rfl hH (f := fun b => (.pointer (some ⟨b, 0, none⟩))) (run_box (v := .agg _) rfl) <| fun b3 w1 hH2 => va (v := U 0#64) rfl <| RL.nil <| SR <| V (run_ldRel underlying42 rfl rfl rfl (hH2.blk (i := 0) rfl)) <| mI rfl <| RL.callP rfl hH2 (c_hasse_below _ _  _ (hT.hp hH2)) (run_call2 call71 rfl rfl) <| fun w4 hH5 => aU rfl <| RL.nil <| CW.ret <| outP1 Tryd.results51 (congrArg U ?_) hH5.below
 rfl
theorem c_hasse_Point (r : Rl) (s : BitVec 64) (w : World) (hT : Tab w) : Calls Tryd.prog 47 #[.agg (relC r), U s] w (Pure (.tuple #[I (pointV r s).1, B (pointV r s).2]) w) := by
 have hp := pts_bd r
 have hnn : (newR r.n).n = pts r := rfl
 refine enter Tryd.func47 rfl Tryd.ntmps47 rfl <| have hH := Hp.start w; SR <| RL.new rfl hH (f := fun b => (.pointer (some ⟨b, 0, none⟩))) (run_box (v := .agg _) rfl) <| fun b3 w1 hH2 => va (v := I 0) rfl <| va (v := B false) rfl <| RL.nil <| CW.seq <| SR <| V (fA underlying42 0 rfl sizeOf3 rfl) <| V (run_ld underlying3 rfl rfl (hH2.cell (i := 0) rfl (relC_N _))) <| RL.callP rfl hH2 (c_relate_New _  _) (run_call1 call68 rfl) <| fun w4 hH5 => V (run_field underlying42 rfl isAgg3 rfl (relC_N _)) <| vm (v := I 0) rfl <| RL.nil <| CW.block <| CW.loop (G := Int) (fun k s' w' => (Fr (rg 4 3 (rg 11 10 [])) _ s') ∧ (Hp w w' _) ∧ (s' 11 = I k) ∧ (0 ≤ k) ∧ (k ≤ pts r) ∧ (∀ j : Int, 0 ≤ j → j < k → belowR r j ≠ s)) (fun k => (pts r - k).toNat) (0) ⟨Fr.refl _ _, hH5, rfl, (by omega), (by omega), fun j x y => absurd y (by omega)⟩ <| ?_
 rintro k sg6 w6 ⟨fr6, hH6, e11_6, h0, hk, hg⟩
 have e1_6 := fr6.uu 1 rfl rfl
 have e2_6 := fr6.pp 2 rfl rfl
 have e10_6 := fr6.ii 10 rfl rfl
 refine SR <| V (run_lss e11_6 e10_6) <| RL.nil <| CW.seq <| CW.condP rfl (fun h8 => ?_) (fun h8 => ?_)
 ·refine CW.skip <| CW.seq <| CW.block <| SR <| vm e11_6 <| aI rfl <| RL.nil <| SR <| V (run_ldRel underlying42 rfl rfl e2_6 (hH6.blk (i := 0) rfl)) <| mI rfl <| RL.callP rfl hH6 (c_hasse_Word _ _  _ (hT.hp hH6)) (run_call2 call51 rfl rfl) <| fun w9 hH10 => vm e1_6 <| V (run_eqlU rfl rfl) <| RL.nil <| CW.condP rfl (fun h12 => ?_) (fun h12 => ?_)
  ·refine SR <| mI rfl <| aI rfl <| va (v := B true) rfl <| RL.nil <| CW.ret <| ?_
   refine outP2 Tryd.results47 (congrArg I ?_) (congrArg B ?_) hH10.below <;> rw [point_yes h0 (by omega) ‹_› hg]
  ·refine CW.skip <| CW.region <| V (run_add e11_6 rfl (by omega)) <| mI rfl <| RL.nil <| ?_
   refine ⟨k + 1, ?_, fr6.u4.u4.u1.u1, hH10, (congrArg I (by rfl)), ?_, ?_, ?_⟩
   ·((try dsimp only); omega)
   ·omega
   ·omega
   ·exact fun j x y => if e : j = k then e ▸ ‹¬ belowR r k = s› else hg j x (by omega)
 ·refine CW.exit (id := 0) rfl <| SR <| va (v := I 0) rfl <| va (v := B false) rfl <| RL.nil <| CW.ret <| ?_
  refine outP2 Tryd.results47 (congrArg I ?_) (congrArg B ?_) hH6.below <;> rw [point_no (by omega) hg]
theorem c_hasse_end (r : Rl) (f : FuncId) (gg : Int → BitVec 64) (w : World) (hf : ∀ args w, (callFunc f args).run Tryd.prog w = .ok (.enter f args) w) (go : ∀ i w, Tab w → Calls Tryd.prog f #[.agg (relC r), I i] w (Pure (U (gg i)) w)) (hT : Tab w) : Calls Tryd.prog 69 #[.agg (relC r), .func (.func f) #[] #[]] w (Pure (.tuple #[I (endV r gg).1, B (endV r gg).2]) w) := by
 have hp := pts_bd r
 have hnn : (newR r.n).n = pts r := rfl
 refine enter Tryd.func69 rfl Tryd.ntmps69 rfl <| have hH := Hp.start w; SR <| RL.new rfl hH (f := fun b => (.pointer (some ⟨b, 0, none⟩))) (run_box (v := .agg _) rfl) <| fun b3 w1 hH2 => va (v := I 0) rfl <| va (v := B false) rfl <| RL.nil <| SR <| V (fA underlying42 0 rfl sizeOf3 rfl) <| V (run_ld underlying3 rfl rfl (hH2.cell (i := 0) rfl (relC_N _))) <| RL.callP rfl hH2 (c_relate_New _  _) (run_call1 call68 rfl) <| fun w4 hH5 => V (run_field underlying42 rfl isAgg3 rfl (relC_N _)) <| aI rfl <| RL.nil <| CW.seq <| SR <| mI rfl <| vm (v := I 0) rfl <| RL.nil <| CW.block <| CW.loop (G := Int) (fun k s' w' => (Fr (4 :: 5 :: (7 :: (rg 13 12 []))) _ s') ∧ (Hp w w' _) ∧ (s' 13 = I k) ∧ (0 ≤ k) ∧ (k ≤ pts r) ∧ (∀ j : Int, 0 ≤ j → j < k → gg j ≠ below (pts r))) (fun k => (pts r - k).toNat) (0) ⟨Fr.refl _ _, hH5, rfl, (by omega), (by omega), fun j x y => absurd y (by omega)⟩ <| ?_
 rintro k sg6 w6 ⟨fr6, hH6, e13_6, h0, hk, hg⟩
 have e1_6 := fr6.vv 1 (a := .func _ _ _) rfl rfl
 have e2_6 := fr6.pp 2 rfl rfl
 have e6_6 := fr6.ii 6 rfl rfl
 have e12_6 := fr6.ii 12 rfl rfl
 refine SR <| V (run_lss e13_6 e12_6) <| RL.nil <| CW.seq <| CW.condP rfl (fun h8 => ?_) (fun h8 => ?_)
 ·refine CW.skip <| CW.seq <| CW.block <| SR <| vm e13_6 <| aI rfl <| RL.nil <| SR <| vm e1_6 <| V (run_ldRel underlying42 rfl rfl e2_6 (hH6.blk (i := 0) rfl)) <| mI rfl <| RL.callP rfl hH6 (go _ _ (hT.hp hH6)) (run_callC2 hf (cs := []) rfl rfl rfl) <| fun w9 hH10 => vm e6_6 <| RL.callP rfl hH10 (c_mask_Below _  _) (run_call1 call45 rfl) <| fun w11 hH12 => V (run_eqlU rfl rfl) <| RL.nil <| CW.condP rfl (fun h14 => ?_) (fun h14 => ?_)
  ·refine SR <| mI rfl <| aI rfl <| va (v := B true) rfl <| RL.nil <| CW.ret <| ?_
   refine outP2 Tryd.results69 (congrArg I ?_) (congrArg B ?_) hH12.below <;> rw [end_yes h0 (by omega) ‹_› hg]
  ·refine CW.skip <| CW.region <| V (run_add e13_6 rfl (by omega)) <| mI rfl <| RL.nil <| ?_
   refine ⟨k + 1, ?_, fr6.u4.u4.u4, hH12, (congrArg I (by rfl)), ?_, ?_, ?_⟩
   ·((try dsimp only); omega)
   ·omega
   ·omega
   ·exact fun j x y => if e : j = k then e ▸ ‹¬ gg k = below _› else hg j x (by omega)
 ·refine CW.exit (id := 0) rfl <| SR <| va (v := I 0) rfl <| va (v := B false) rfl <| RL.nil <| CW.ret <| ?_
  refine outP2 Tryd.results69 (congrArg I ?_) (congrArg B ?_) hH6.below <;> rw [end_no (by omega) hg]
theorem c_hasse_Bottom (r : Rl) (w : World) (hT : Tab w) : Calls Tryd.prog 50 #[.agg (relC r)] w (Pure (.tuple #[I (endV r (aboveR r)).1, B (endV r (aboveR r)).2]) w) := by
 refine enter Tryd.func50 rfl Tryd.ntmps50 rfl <| have hH := Hp.start w; SR <| RL.new rfl hH (f := fun b => (.pointer (some ⟨b, 0, none⟩))) (run_box (v := .agg _) rfl) <| fun b3 w1 hH2 => va (v := I 0) rfl <| va (v := B false) rfl <| RL.nil <| SR <| V (run_ldRel underlying42 rfl rfl rfl (hH2.blk (i := 0) rfl)) <| RL.callP rfl hH2 (c_hasse_end r 70 (aboveR r) _ call70 (fun i w h => c_hasse_above r i w h) (hT.hp hH2)) (run_call2 call69 rfl rfl) <| fun w4 hH5 => V (run_extract rfl (v := I _) rfl) <| V (run_extract rfl (v := B _) rfl) <| aI rfl <| aB rfl <| RL.nil <| CW.ret <| outP2 Tryd.results50 (congrArg I ?_) (congrArg B ?_) hH5.below
 all_goals rfl
theorem c_hasse_Lattice (r : Rl) (w : World) (hT : Tab w) : Calls Tryd.prog 66 #[.agg (relC r)] w (Pure (B (latB r)) w) := by
 have hp := pts_bd r
 refine enter Tryd.func66 rfl Tryd.ntmps66 rfl <| have hH := Hp.start w; SR <| RL.new rfl hH (f := fun b => (.pointer (some ⟨b, 0, none⟩))) (run_box (v := .agg _) rfl) <| fun b3 w1 hH2 => va (v := B false) rfl <| RL.nil <| CW.seq <| SR <| V (fA underlying42 0 rfl sizeOf3 rfl) <| V (run_ld underlying3 rfl rfl (hH2.cell (i := 0) rfl (relC_N _))) <| V (run_lss rfl rfl) <| mB rfl <| RL.splitP (dj := 12) rfl (fun h5 => ?_) (fun h5 => ?_)
 ·refine gF rfl (bT h5) <| gF rfl (bT h5) <| gF rfl (bT h5) <| V (run_pickT (bT h5) (v := B true) rfl) <| mB rfl <| gF rfl rfl <| gF rfl rfl <| gF rfl rfl <| V (run_pickT rfl (v := B true) rfl) <| RL.nil <| CW.condT rfl <| SR <| va (v := B false) rfl <| RL.nil <| CW.ret <| outP1 Tryd.results66 (congrArg B ?_) hH2.below
  exact (lat_no1 (by omega)).symm
 ·refine gT rfl (bF h5) <| V (fA underlying42 0 rfl sizeOf3 rfl) <| gT rfl (bF h5) <| V (run_ld underlying3 rfl rfl (hH2.cell (i := 0) rfl (relC_N _))) <| gT rfl (bF h5) <| V (run_gtr rfl rfl) <| V (run_pickF (bF h5) (v := B _) rfl) <| mB rfl <| RL.splitP (dj := 17) rfl (fun h7 => ?_) (fun h7 => ?_)
  ·refine gF rfl (bT h7) <| gF rfl (bT h7) <| gF rfl (bT h7) <| V (run_pickT (bT h7) (v := B true) rfl) <| RL.nil <| CW.condT rfl <| SR <| va (v := B false) rfl <| RL.nil <| CW.ret <| outP1 Tryd.results66 (congrArg B ?_) hH2.below
   exact (lat_no1 (by omega)).symm
  ·refine gT rfl (bF h7) <| V (run_ldRel underlying42 rfl rfl rfl (hH2.blk (i := 0) rfl)) <| gT rfl (bF h7) <| RL.callP rfl hH2 (c_relate_Order _  _ (hT.hp hH2)) (run_call1 call81 rfl) <| fun w8 hH9 => gT rfl (bF h7) <| V (run_not rfl) <| V (run_pickF (bF h7) (v := B _) rfl) <| RL.nil <| CW.cond rfl (fun h12 => ?_) (fun h12 => ?_)
   ·refine SR <| va (v := B false) rfl <| RL.nil <| CW.ret <| outP1 Tryd.results66 (congrArg B ?_) hH9.below
    exact (lat_no2 (nt ‹_›)).symm
   ·refine CW.skip <| CW.seq <| SR <| V (fA underlying42 0 rfl sizeOf3 rfl) <| V (run_ld underlying3 rfl rfl (hH9.cell (i := 0) rfl (relC_N _))) <| vm (v := I 0) rfl <| RL.nil <| CW.block <| have hn : 1 ≤ r.n ∧ r.n ≤ 64 := (by omega); have ho : orderB r = true := nf ‹_›; CW.loop (G := Int) (fun i s' w' => (Fr (rg 2 7 (rg 24 29 [])) _ s') ∧ (Hp w w' _) ∧ (s' 24 = I i) ∧ (0 ≤ i) ∧ (i ≤ r.n) ∧ (∀ a b : Int, 0 ≤ b → b < a → a < i → bothB r a b = true)) (fun i => (r.n - i).toNat) (0) ⟨Fr.refl _ _, hH9, rfl, (by omega), (by omega), fun a b x y z => absurd z (by omega)⟩ <| ?_
    rintro i sg13 w13 ⟨fr13, hH13, e24_13, i0, i1, hg⟩
    have e1_13 := fr13.pp 1 rfl rfl
    have e23_13 := fr13.ii 23 rfl rfl
    refine SR <| V (run_lss e24_13 e23_13) <| RL.nil <| CW.seq <| CW.condP rfl (fun h15 => ?_) (fun h15 => ?_)
    ·refine CW.skip <| CW.seq <| CW.block <| SR <| vm e24_13 <| aI rfl <| RL.nil <| SR <| mI rfl <| vm (v := I 0) rfl <| RL.nil <| CW.block <| CW.loop (G := Int) (fun j s' w' => (Fr (2 :: (rg 4 5 (rg 28 24 []))) _ s') ∧ (Hp w w' _) ∧ (s' 28 = I j) ∧ (0 ≤ j) ∧ (j ≤ i) ∧ (∀ b : Int, 0 ≤ b → b < j → bothB r i b = true)) (fun j => (i - j).toNat) (0) ⟨Fr.refl _ _, hH13, rfl, (by omega), (by omega), fun b x y => absurd y (by omega)⟩ <| ?_
     rintro j sg16 w16 ⟨fr16, hH16, e28_16, j0, j1, hh⟩
     have e1_16 := (fr16 1 rfl).trans e1_13
     have e3_16 := fr16.ii 3 rfl rfl
     have e24_16 := (fr16 24 rfl).trans e24_13
     have e27_16 := fr16.ii 27 rfl rfl
     refine SR <| V (run_lss e28_16 e27_16) <| RL.nil <| CW.seq <| CW.condP rfl (fun h18 => ?_) (fun h18 => ?_)
     ·refine CW.skip <| CW.seq <| CW.block <| SR <| vm e28_16 <| aI rfl <| RL.nil <| SR <| V (run_ldRel underlying42 rfl rfl e1_16 (hH16.blk (i := 0) rfl)) <| vm e3_16 <| mI rfl <| RL.callP rfl hH16 (c_hasse_Join _ _ _  _ (hT.hp hH16)) (run_call3 call82 rfl rfl rfl) <| fun w19 hH20 => ?_
      refine V (run_move (by conv => lhs; whnf)) ?_
      refine V (run_extract rfl (v := I _) rfl) <| V (run_extract rfl (v := B _) rfl) <| aI rfl <| aB rfl <| RL.nil <| SR <| V (run_ldRel underlying42 rfl rfl e1_16 (hH20.blk (i := 0) rfl)) <| vm e3_16 <| mI rfl <| RL.callP rfl hH20 (c_hasse_Meet _ _ _  _ (hT.hp hH20)) (run_call3 call83 rfl rfl rfl) <| fun w22 hH23 => ?_
      refine V (run_move (by conv => lhs; whnf)) ?_
      refine V (run_extract rfl (v := I _) rfl) <| V (run_extract rfl (v := B _) rfl) <| aI rfl <| aB rfl <| RL.nil <| SR <| mB rfl <| V (run_not rfl) <| mB rfl <| RL.split (dj := 47) rfl (fun h26 => ?_) (fun h26 => ?_)
      ·refine gF rfl (bR (c := true) h26) <| gF rfl (bR (c := true) h26) <| V (run_pickT (bR (c := true) h26) (v := B true) rfl) <| RL.nil <| CW.condT rfl <| SR <| va (v := B false) rfl <| RL.nil <| CW.ret <| outP1 Tryd.results66 (congrArg B ?_) hH23.below
       exact (lat_no3 ‹i < r.n› j0 ‹j < i› (by rw [bothB, nt ‹(!(joinV r i j).2) = true›]; rfl)).symm
      ·refine gT rfl (bR (c := false) h26) <| mB rfl <| gT rfl (bR (c := false) h26) <| V (run_not rfl) <| V (run_pickF (bR (c := false) h26) (v := B _) rfl) <| RL.nil <| CW.cond rfl (fun h28 => ?_) (fun h28 => ?_)
       ·refine SR <| va (v := B false) rfl <| RL.nil <| CW.ret <| outP1 Tryd.results66 (congrArg B ?_) hH23.below
        exact (lat_no3 ‹i < r.n› j0 ‹j < i› (by rw [bothB, nt ‹(!(meetV r i j).2) = true›]; simp)).symm
       ·refine CW.skip <| CW.region <| V (run_add e28_16 rfl (by omega)) <| mI rfl <| RL.nil <| ?_
        refine ⟨j + 1, ?_, fr16.u4.u4.u4.u4.u4.u4.u4.u1, hH23, (congrArg I (by rfl)), ?_, ?_, ?_⟩
        ·((try dsimp only); omega)
        ·omega
        ·omega
        ·exact fun b x y => if e : b = j then e ▸ (by rw [bothB, Bool.and_eq_true]; exact ⟨nf ‹(!(joinV r i j).2) = false›, nf ‹(!(meetV r i j).2) = false›⟩) else hh b x (by omega)
     ·refine CW.exit (id := 2) rfl <| CW.region <| V (run_add e24_16 rfl (by omega)) <| mI rfl <| RL.nil <| ?_
      refine ⟨i + 1, ?_, (((fr13.u4.u1).t fr16 rfl)).u1.u1.u1, hH16, (congrArg I (by rfl)), ?_, ?_, ?_⟩
      ·((try dsimp only); omega)
      ·omega
      ·omega
      ·exact fun a b x y z => if e : a = i then e ▸ hh b x (by omega) else hg a b x y (by omega)
    ·refine CW.exit (id := 0) rfl <| SR <| va (v := B true) rfl <| RL.nil <| CW.ret <| outP1 Tryd.results66 (congrArg B ?_) hH13.below
     exact (lat_yes hn ho ‹_› hg).symm
theorem c_grid_Right (r : Rl) (w : World) : Calls Tryd.prog 65 #[.agg (relC r)] w (Pure (B (rightG r)) w) := by
 refine enter Tryd.func65 rfl Tryd.ntmps65 rfl <| have hH := Hp.start w; SR <| RL.new rfl hH (f := fun b => (.pointer (some ⟨b, 0, none⟩))) (run_box (v := .agg _) rfl) <| fun b3 w1 hH2 => va (v := B false) rfl <| RL.nil <| SR <| V (fA underlying42 0 rfl sizeOf3 rfl) <| V (run_ld underlying3 rfl rfl (hH2.cell (i := 0) rfl (relC_N _))) <| V (run_geq rfl rfl) <| mB rfl <| RL.splitP (dj := 6) rfl (fun h5 => ?_) (fun h5 => ?_)
 ·refine gT rfl (bT h5) <| V (fA underlying42 0 rfl sizeOf3 rfl) <| gT rfl (bT h5) <| V (run_ld underlying3 rfl rfl (hH2.cell (i := 0) rfl (relC_N _))) <| gT rfl (bT h5) <| V (run_leq rfl rfl) <| V (run_pickT (bT h5) (v := B _) rfl) <| mB rfl <| RL.splitP (dj := 11) rfl (fun h7 => ?_) (fun h7 => ?_)
  ·refine gT rfl (bT h7) <| V (run_ldRel underlying42 rfl rfl rfl (hH2.blk (i := 0) rfl)) <| gT rfl (bT h7) <| RL.callP rfl hH2 (c_relate_Closed _  _) (run_call1 call80 rfl) <| fun w8 hH9 => V (run_pickT (bT h7) (v := B _) rfl) <| aB rfl <| RL.nil <| CW.ret <| outP1 Tryd.results65 (congrArg B ?_) hH9.below
   rw [rightG, decide_eq_true (show 1 ≤ r.n ∧ r.n ≤ 8 by omega), Bool.true_and]
  ·refine gF rfl (bF h7) <| gF rfl (bF h7) <| V (run_pickF (bF h7) (v := B false) rfl) <| aB rfl <| RL.nil <| CW.ret <| outP1 Tryd.results65 (congrArg B ?_) hH2.below
   rw [rightG, decide_eq_false (show ¬ (1 ≤ r.n ∧ r.n ≤ 8) by omega), Bool.false_and]
 ·refine gF rfl (bF h5) <| gF rfl (bF h5) <| gF rfl (bF h5) <| V (run_pickF (bF h5) (v := B false) rfl) <| mB rfl <| gF rfl rfl <| gF rfl rfl <| V (run_pickF rfl (v := B false) rfl) <| aB rfl <| RL.nil <| CW.ret <| outP1 Tryd.results65 (congrArg B ?_) hH2.below
  rw [rightG, decide_eq_false (show ¬ (1 ≤ r.n ∧ r.n ≤ 8) by omega), Bool.false_and]
theorem c_grid_row (r : Rl) (s : BitVec 64) (o : Int) (ho : 0 ≤ o ∧ o < 8) (w : World) : Calls Tryd.prog 74 #[.agg (relC r), U s, I o] w (Pure (U (growG r s o)) w) := by
 refine enter Tryd.func74 rfl Tryd.ntmps74 rfl <| have hH := Hp.start w; SR <| RL.new rfl hH (f := fun b => (.pointer (some ⟨b, 0, none⟩))) (run_box (v := .agg _) rfl) <| fun b3 w1 hH2 => va (v := U 0#64) rfl <| RL.nil <| SR <| mU rfl <| mI rfl <| V (run_mul rfl rfl (by omega)) <| V (run_convIU underlying3 underlying112 rfl) <| V (run_shrU rfl rfl) <| V (fA underlying42 0 rfl sizeOf3 rfl) <| V (run_ld underlying3 rfl rfl (hH2.cell (i := 0) rfl (relC_N _))) <| RL.callP rfl hH2 (c_mask_Below _  _) (run_call1 call45 rfl) <| fun w4 hH5 => V (run_andU rfl rfl) <| aU rfl <| RL.nil <| CW.ret <| outP1 Tryd.results74 (congrArg U ?_) hH5.below
 rfl
theorem c_grid_rows (r : Rl) (f : FuncId) (cs : List Value) (ff : Int → BitVec 64) (hn : 1 ≤ r.n ∧ r.n ≤ 8) (w : World) (hf : ∀ args w, (callFunc f args).run Tryd.prog w = .ok (.enter f args) w) (go : ∀ i w', Below w.heap.size w w' → 0 ≤ i → i < r.n → Calls Tryd.prog f (I i :: cs).toArray w' (Pure (U (ff i)) w')) : Calls Tryd.prog 84 #[.agg (relC r), .func (.func f) #[] cs.toArray] w (Pure (U (rowsG ff r.n)) w) := by
 refine enter Tryd.func84 rfl Tryd.ntmps84 rfl <| have hH := Hp.start w; SR <| RL.new rfl hH (f := fun b => (.pointer (some ⟨b, 0, none⟩))) (run_box (v := .agg _) rfl) <| fun b3 w1 hH2 => va (v := U 0#64) rfl <| RL.nil <| SR <| va (v := U 0#64) rfl <| RL.nil <| CW.seq <| SR <| V (fA underlying42 0 rfl sizeOf3 rfl) <| V (run_ld underlying3 rfl rfl (hH2.cell (i := 0) rfl (relC_N _))) <| vm (v := I 0) rfl <| RL.nil <| CW.block <| CW.loop (G := Int) (fun k s' w' => (Fr (5 :: 6 :: (rg 9 13 [])) _ s') ∧ (Hp w w' _) ∧ (s' 5 = U (rowsG ff k)) ∧ (s' 9 = I k) ∧ (0 ≤ k) ∧ (k ≤ r.n)) (fun k => (r.n - k).toNat) (0) ⟨Fr.refl _ _, hH2, rfl, rfl, (by omega), (by omega)⟩ <| ?_
 rintro k sg4 w4 ⟨fr4, hH4, e5_4, e9_4, h0, hk⟩
 have e1_4 := fr4.vv 1 (a := .func _ _ _) rfl rfl
 have e8_4 := fr4.ii 8 rfl rfl
 refine SR <| V (run_lss e9_4 e8_4) <| RL.nil <| CW.seq <| CW.condP rfl (fun h6 => ?_) (fun h6 => ?_)
 ·refine CW.skip <| CW.seq <| CW.block <| SR <| vm e9_4 <| aI rfl <| RL.nil <| CW.region <| vm e5_4 <| vm e1_4 <| mI rfl <| RL.callP rfl hH4 (go _ _ hH4.below (by omega) (by omega)) (run_callC1 hf (cs := cs) rfl rfl) <| fun w7 hH8 => mI rfl <| V (run_mul rfl rfl (by omega)) <| V (run_convIU underlying3 underlying112 rfl) <| V (run_shlU rfl rfl) <| V (run_orU rfl rfl) <| aU rfl <| RL.nil <| CW.region <| V (run_add e9_4 rfl (by omega)) <| mI rfl <| RL.nil <| ?_
  refine ⟨k + 1, ?_, fr4.u4.u4.u4.u1.u1.u1, hH8, (congrArg U (rows_next h0)), (congrArg I (by rfl)), ?_, ?_⟩
  ·((try dsimp only); omega)
  ·omega
  ·omega
 ·refine CW.exit (id := 0) rfl <| SR <| vm e5_4 <| aU rfl <| RL.nil <| CW.ret <| outP1 Tryd.results84 (congrArg U ?_) hH4.below
  (rw [show k = r.n by omega])
theorem c_grid_Close_1 (b c : Nat) (r : Rl) (s : BitVec 64) (o : Int) (hr : rightG r = true) (w : World) (hb : w.heap[b]? = some (.cells (relC r) 42 (0, 0))) (hc : w.heap[c]? = some (.cells #[U s] 23 (0, 0))) (hT : Tab w) : Calls Tryd.prog 85 #[I o, .pointer (some ⟨b, 0, none⟩), .pointer (some ⟨c, 0, none⟩)] w (Pure (U (closeF r s o)) w) := by
 have hl := lst_len (upR r (ofl [o]))
 refine enter Tryd.func85 rfl Tryd.ntmps85 rfl <| have hH := Hp.start w; SR <| va (v := U 0#64) rfl <| RL.nil <| SR <| va (v := U 0#64) rfl <| RL.nil <| CW.seq <| CW.seq <| CW.regionD (by kernel_rfl) hH <| fun w1 hH2 => have zh2 := hH2.sub sR; AT 0 rfl zh2 (fun w hS => run_ldRel underlying42 rfl rfl rfl (hS.ext hb)) <| AQ 1 rfl zh2 (mV (I _) rfl) <| AQ 7 rfl zh2 (mV (I 0) rfl) <| A1 2 <| AO.new rfl gnone rfl hH2 sR (f := fun b => .slice (some ⟨b, 0, none⟩) 1 1) (run_mkL underlying104 rfl rfl (sz := 1) (vs := [I _]) rfl rfl (by decide) (by decide) rfl rfl) <| fun b5 w3 hH4 => ?_
 (try simp only [clX] at hH4)
 have hH6 := hH4.blkRow 1 1 rfl (by decide)
 refine A1 3 <| AO.callP rfl gnone rfl hH6 (sQ sR) (c_mask_Of _ [o] _ (hH6.sl (i := 0) rfl)) (run_call1 call87 rfl) <| fun w7 hH8 => A1 4 <| AO.callP rfl gnone rfl hH8 (sQ sR) (c_relate_Up _ _  _ (hT.hp hH8)) (run_call2 call86 rfl rfl) <| fun w9 hH10 => A1 5 <| AO.callR rfl gnone rfl hH10 (sQ sR) (c_mask_List _  _ (hT.hp hH10)) (run_call1 call59 rfl) <| fun v13 w11 hH12 => A1 6 <| AO.read rfl gnone rfl hH12 (sQ (sQ sR)) (run_lenSl (hH12.sl (i := 0) rfl) rfl underlying104 rfl) <| AD <| CW.block <| CW.loop (G := Int) (fun k s' w' => (Fr (5 :: (7 :: (rg 15 13 []))) _ s') ∧ (Hp w w' _) ∧ (s' 5 = U (orAll (fun p => downR r (growG r s p)) ((lst (upR r (ofl [o]))).take k.toNat))) ∧ (s' 15 = I k) ∧ (0 ≤ k) ∧ (k ≤ (lst (upR r (ofl [o]))).length)) (fun k => ((lst (upR r (ofl [o]))).length - k).toNat) (0) ⟨Fr.refl _ _, hH12, (congrArg U (by simp [orAll])), rfl, (by omega), (by omega)⟩ <| ?_
 rintro k sg16 w16 ⟨fr16, hH16, e5_16, e15_16, h0, hk⟩
 have e1_16 := (fr16 1 rfl).trans (by conv => lhs; whnf)
 have e2_16 := (fr16 2 rfl).trans (by conv => lhs; whnf)
 have e13_16 := (fr16 13 rfl).trans (by conv => lhs; whnf)
 have e14_16 := fr16.ii 14 rfl rfl
 refine SR <| V (run_lss e15_16 e14_16) <| RL.nil <| CW.seq <| CW.condP rfl (fun h18 => ?_) (fun h18 => ?_)
 ·refine CW.skip <| CW.seq <| CW.block <| SR <| V (run_indexAddrS (hH16.sl (i := 0) rfl) underlying104 sizeOf3 e13_16 e15_16 (by omega)) <| V (run_ld underlying3 rfl rfl ((hH16.sl (i := 0) rfl).cell _ _ (map_at (by omega)))) <| aI rfl <| RL.nil <| CW.regionD (by kernel_rfl) hH16 <| fun w19 hH20 => have zh20 := hH20.sub sR; AQ 0 rfl zh20 (run_move e5_16) <| AT 1 rfl zh20 (fun w hS => run_ldRel underlying42 rfl rfl e1_16 (hS.ext hb)) <| AT 2 rfl zh20 (fun w hS => run_ldRel underlying42 rfl rfl e1_16 (hS.ext hb)) <| AT 3 rfl zh20 (fun w hS => run_ld underlying23 rfl e2_16 (hS.extCell hc (v := U _) rfl)) <| AQ 4 rfl zh20 (mV (I _) rfl) <| A1 5 <| AO.callP rfl gnone rfl hH20 sR (c_grid_row _ _ _ (above_lt hr (lst_at h0 ‹_›)) _) (run_call3 call74 rfl rfl rfl) <| fun w21 hH22 => A1 6 <| AO.callP rfl gnone rfl hH22 sR (c_relate_Down _ _  _) (run_call2 call88 rfl rfl) <| fun w23 hH24 => AQ 7 rfl (hH24.sub sR) (run_orU rfl rfl) <| AQ 8 rfl (hH24.sub sR) (aV (U _) rfl) <| AD <| CW.region <| V (run_add e15_16 rfl (by omega)) <| mI rfl <| RL.nil <| ?_
  refine ⟨k + 1, ?_, fr16.u4.u4.u4.u1.u1.u1, hH24, (congrArg U (orAll_next (f := fun p => downR r (growG r s p)) h0 ‹_›)), (congrArg I (by rfl)), ?_, ?_⟩
  ·((try dsimp only); omega)
  ·omega
  ·omega
 ·refine CW.exit (id := 0) rfl <| SR <| vm e5_16 <| aU rfl <| RL.nil <| CW.ret <| outP1 Tryd.results85 (congrArg U ?_) hH16.below
  (rw [take_all ‹_›]; rfl)
theorem c_grid_Close (r : Rl) (s : BitVec 64) (w : World) (hT : Tab w) : Calls Tryd.prog 67 #[.agg (relC r), U s] w (Pure (U (closeG r s)) w) := by
 refine enter Tryd.func67 rfl Tryd.ntmps67 rfl <| have hH := Hp.start w; SR <| RL.new rfl hH (f := fun b => (.pointer (some ⟨b, 0, none⟩))) (run_box (v := .agg _) rfl) <| fun b3 w1 hH2 => RL.new rfl hH2 (f := fun b => (.pointer (some ⟨b, 0, none⟩))) (run_box (v := U _) rfl) <| fun b6 w4 hH5 => va (v := U 0#64) rfl <| RL.nil <| CW.seq <| SR <| V (run_ldRel underlying42 rfl rfl rfl (hH5.blk (i := 1) rfl)) <| RL.callP rfl hH5 (c_grid_Right _  _) (run_call1 call65 rfl) <| fun w7 hH8 => V (run_not rfl) <| RL.nil <| CW.cond rfl (fun h11 => ?_) (fun h11 => ?_)
 ·refine SR <| va (v := U 0#64) rfl <| RL.nil <| CW.ret <| outP1 Tryd.results67 (congrArg U ?_) hH8.below
  exact (close_no (nt ‹_›)).symm
 ·refine CW.skip <| SR <| V (run_ldRel underlying42 rfl rfl rfl (hH8.blk (i := 1) rfl)) <| ?_
  refine V (run_mkF2 (by conv => lhs; whnf) (by conv => lhs; whnf)) ?_
  refine RL.callP rfl hH8 (c_grid_rows r 85 [.pointer (some ⟨b3, 0, none⟩), .pointer (some ⟨b6, 0, none⟩)] (closeF r s) (right_spec (nf ‹(!rightG r) = false›)).1 _ call85 (fun i w h _ _ => c_grid_Close_1 b3 b6 r s i (nf ‹(!rightG r) = false›) w (keep h (hH8.blk (i := 1) rfl)) (keep h (hH8.blk (i := 0) rfl)) ((hT.hp hH8).below h))) (run_call2 call84 rfl rfl) <| fun w12 hH13 => aU rfl <| RL.nil <| CW.ret <| outP1 Tryd.results67 (congrArg U ?_) hH13.below
  exact close_yes (nf ‹_›)
theorem c_grid_Closed (r : Rl) (s : BitVec 64) (w : World) (hT : Tab w) : Calls Tryd.prog 46 #[.agg (relC r), U s] w (Pure (B (closedG r s)) w) := by
 refine enter Tryd.func46 rfl Tryd.ntmps46 rfl <| have hH := Hp.start w; SR <| RL.new rfl hH (f := fun b => (.pointer (some ⟨b, 0, none⟩))) (run_box (v := .agg _) rfl) <| fun b3 w1 hH2 => va (v := B false) rfl <| RL.nil <| SR <| V (run_ldRel underlying42 rfl rfl rfl (hH2.blk (i := 0) rfl)) <| RL.callP rfl hH2 (c_grid_Right _  _) (run_call1 call65 rfl) <| fun w4 hH5 => mB rfl <| RL.split (dj := 7) rfl (fun h7 => ?_) (fun h7 => ?_)
 ·refine gT rfl (bR (c := true) h7) <| V (run_ldRel underlying42 rfl rfl rfl (hH5.blk (i := 0) rfl)) <| gT rfl (bR (c := true) h7) <| mU rfl <| gT rfl (bR (c := true) h7) <| RL.callP rfl hH5 (c_grid_Close _ _  _ (hT.hp hH5)) (run_call2 call67 rfl rfl) <| fun w8 hH9 => gT rfl (bR (c := true) h7) <| mU rfl <| gT rfl (bR (c := true) h7) <| V (run_eqlU rfl rfl) <| V (run_pickT (bR (c := true) h7) (v := B _) rfl) <| aB rfl <| RL.nil <| CW.ret <| outP1 Tryd.results46 (congrArg B ?_) hH9.below
  (rw [closedG, ‹rightG r = true›]; rfl)
 ·refine gF rfl (bR (c := false) h7) <| gF rfl (bR (c := false) h7) <| gF rfl (bR (c := false) h7) <| gF rfl (bR (c := false) h7) <| gF rfl (bR (c := false) h7) <| V (run_pickF (bR (c := false) h7) (v := B false) rfl) <| aB rfl <| RL.nil <| CW.ret <| outP1 Tryd.results46 (congrArg B ?_) hH5.below
  (rw [closedG, ‹rightG r = false›]; rfl)
theorem c_grid_owns (r : Rl) (o : Int) (w : World) : Calls Tryd.prog 76 #[.agg (relC r), I o] w (Pure (B (ownsG r o)) w) := by
 refine enter Tryd.func76 rfl Tryd.ntmps76 rfl <| have hH := Hp.start w; SR <| RL.new rfl hH (f := fun b => (.pointer (some ⟨b, 0, none⟩))) (run_box (v := .agg _) rfl) <| fun b3 w1 hH2 => va (v := B false) rfl <| RL.nil <| SR <| V (run_ldRel underlying42 rfl rfl rfl (hH2.blk (i := 0) rfl)) <| RL.callP rfl hH2 (c_grid_Right _  _) (run_call1 call65 rfl) <| fun w4 hH5 => mB rfl <| RL.split (dj := 7) rfl (fun h7 => ?_) (fun h7 => ?_)
 ·refine gT rfl (bR (c := true) h7) <| mI rfl <| gT rfl (bR (c := true) h7) <| V (run_geq rfl rfl) <| V (run_pickT (bR (c := true) h7) (v := B _) rfl) <| mB rfl <| RL.splitP (dj := 11) rfl (fun h9 => ?_) (fun h9 => ?_)
  ·refine gT rfl (bT h9) <| mI rfl <| gT rfl (bT h9) <| V (fA underlying42 0 rfl sizeOf3 rfl) <| gT rfl (bT h9) <| V (run_ld underlying3 rfl rfl (hH5.cell (i := 0) rfl (relC_N _))) <| gT rfl (bT h9) <| V (run_lss rfl rfl) <| V (run_pickT (bT h9) (v := B _) rfl) <| aB rfl <| RL.nil <| CW.ret <| outP1 Tryd.results76 (congrArg B ?_) hH5.below
   (rw [ownsG, ‹rightG r = true›, Bool.true_and, Bool.eq_iff_iff]; simp only [decide_eq_true_eq]; omega)
  ·refine gF rfl (bF h9) <| gF rfl (bF h9) <| gF rfl (bF h9) <| gF rfl (bF h9) <| V (run_pickF (bF h9) (v := B false) rfl) <| aB rfl <| RL.nil <| CW.ret <| outP1 Tryd.results76 (congrArg B ?_) hH5.below
   rw [own_no (.inr (by omega))]
 ·refine gF rfl (bR (c := false) h7) <| gF rfl (bR (c := false) h7) <| V (run_pickF (bR (c := false) h7) (v := B false) rfl) <| mB rfl <| gF rfl rfl <| gF rfl rfl <| gF rfl rfl <| gF rfl rfl <| V (run_pickF rfl (v := B false) rfl) <| aB rfl <| RL.nil <| CW.ret <| outP1 Tryd.results76 (congrArg B ?_) hH5.below
  rw [own_no (.inl ‹_›)]
theorem c_grid_Readers (r : Rl) (s : BitVec 64) (o : Int) (w : World) : Calls Tryd.prog 61 #[.agg (relC r), U s, I o] w (Pure (U (readersG r s o)) w) := by
 refine enter Tryd.func61 rfl Tryd.ntmps61 rfl <| have hH := Hp.start w; SR <| RL.new rfl hH (f := fun b => (.pointer (some ⟨b, 0, none⟩))) (run_box (v := .agg _) rfl) <| fun b3 w1 hH2 => va (v := U 0#64) rfl <| RL.nil <| CW.seq <| SR <| V (run_ldRel underlying42 rfl rfl rfl (hH2.blk (i := 0) rfl)) <| mI rfl <| RL.callP rfl hH2 (c_grid_owns _ _  _) (run_call2 call76 rfl rfl) <| fun w4 hH5 => V (run_not rfl) <| RL.nil <| CW.cond rfl (fun h8 => ?_) (fun h8 => ?_)
 ·refine SR <| va (v := U 0#64) rfl <| RL.nil <| CW.ret <| outP1 Tryd.results61 (congrArg U ?_) hH5.below
  exact (read_no (nt ‹_›)).symm
 ·refine CW.skip <| CW.seq <| CW.regionD (by kernel_rfl) hH5 <| fun w9 hH10 => have zh10 := hH10.sub sR; AQ 0 rfl zh10 (fA underlying42 0 rfl sizeOf3 rfl) <| AT 1 rfl zh10 (fun w hS => run_ld underlying3 rfl rfl (hS.cell (i := 0) rfl (relC_N _))) <| AT 3 rfl zh10 (fun w hS => run_ldRel underlying42 rfl rfl rfl (hS.blk (i := 0) rfl)) <| AQ 4 rfl zh10 (mV (U _) rfl) <| AQ 5 rfl zh10 (mV (I _) rfl) <| A1 2 <| AO.callP rfl gnone rfl hH10 sR (c_mask_Below _  _) (run_call1 call45 rfl) <| fun w11 hH12 => A1 6 <| AO.callP rfl gnone rfl hH12 sR (c_grid_row _ _ _ (own_lt (nf ‹(!ownsG r o) = false›)) _) (run_call3 call74 rfl rfl rfl) <| fun w13 hH14 => AQ 7 rfl (hH14.sub sR) (run_andNotU rfl rfl) <| AQ 8 rfl (hH14.sub sR) (aV (U _) rfl) <| AD <| CW.ret <| outP1 Tryd.results61 (congrArg U ?_) hH14.below
  (rw [readersG, if_pos (nf ‹_›)])
theorem c_grid_Owners (r : Rl) (s : BitVec 64) (w : World) : Calls Tryd.prog 60 #[.agg (relC r), U s] w (Pure (U (ownersG r s)) w) := by
 refine enter Tryd.func60 rfl Tryd.ntmps60 rfl <| have hH := Hp.start w; SR <| RL.new rfl hH (f := fun b => (.pointer (some ⟨b, 0, none⟩))) (run_box (v := .agg _) rfl) <| fun b3 w1 hH2 => va (v := U 0#64) rfl <| RL.nil <| SR <| va (v := U 0#64) rfl <| RL.nil <| CW.seq <| SR <| V (run_ldRel underlying42 rfl rfl rfl (hH2.blk (i := 0) rfl)) <| RL.callP rfl hH2 (c_grid_Right _  _) (run_call1 call65 rfl) <| fun w4 hH5 => V (run_not rfl) <| RL.nil <| CW.cond rfl (fun h8 => ?_) (fun h8 => ?_)
 ·refine SR <| va (v := U 0#64) rfl <| RL.nil <| CW.ret <| outP1 Tryd.results60 (congrArg U ?_) hH5.below
  exact (owner_no (nt ‹_›)).symm
 ·refine CW.skip <| CW.seq <| SR <| V (fA underlying42 0 rfl sizeOf3 rfl) <| V (run_ld underlying3 rfl rfl (hH5.cell (i := 0) rfl (relC_N _))) <| vm (v := I 0) rfl <| RL.nil <| CW.block <| have hr : rightG r = true := nf ‹_›; have hs := right_spec hr; CW.loop (G := Int) (fun k s' w' => (Fr (5 :: 6 :: (rg 12 12 [])) _ s') ∧ (Hp w w' _) ∧ (s' 5 = U (ofl (ownL r s k))) ∧ (s' 12 = I k) ∧ (0 ≤ k) ∧ (k ≤ r.n)) (fun k => (r.n - k).toNat) (0) ⟨Fr.refl _ _, hH5, (congrArg U (by rfl)), rfl, (by omega), (by omega)⟩ <| ?_
  rintro k sg9 w9 ⟨fr9, hH9, e5_9, e12_9, h0, hk⟩
  have e1_9 := fr9.uu 1 rfl rfl
  have e2_9 := fr9.pp 2 rfl rfl
  have e11_9 := fr9.ii 11 rfl rfl
  refine SR <| V (run_lss e12_9 e11_9) <| RL.nil <| CW.seq <| CW.condP rfl (fun h11 => ?_) (fun h11 => ?_)
  ·refine CW.skip <| CW.seq <| CW.block <| SR <| vm e12_9 <| aI rfl <| RL.nil <| SR <| V (run_ldRel underlying42 rfl rfl e2_9 (hH9.blk (i := 0) rfl)) <| vm e1_9 <| mI rfl <| RL.callP rfl hH9 (c_grid_row _ _ _ (by omega) _) (run_call3 call74 rfl rfl rfl) <| fun w12 hH13 => V (run_neqU rfl (b := 0#64) rfl) <| RL.nil <| CW.condP rfl (fun h15 => ?_) (fun h15 => ?_)
   ·refine CW.region <| vm e5_9 <| mI rfl <| RL.callP rfl hH13 (c_mask_With _ _  _) (run_call2 call75 rfl rfl) <| fun w16 hH17 => aU rfl <| RL.nil <| CW.region <| V (run_add e12_9 rfl (by omega)) <| mI rfl <| RL.nil <| ?_
    refine ⟨k + 1, ?_, fr9.u4.u4.u4.u1.u1, hH17, (congrArg U (by rw [withB_ofl, ownL_yes h0 ‹_›])), (congrArg I (by rfl)), ?_, ?_⟩
    ·((try dsimp only); omega)
    ·omega
    ·omega
   ·refine CW.skip <| CW.region <| V (run_add e12_9 rfl (by omega)) <| mI rfl <| RL.nil <| ?_
    refine ⟨k + 1, ?_, fr9.u4.u4.u1.u1, hH13, (Eq.trans e5_9 (congrArg U (by rw [ownL_no h0 ‹_›]))), (congrArg I (by rfl)), ?_, ?_⟩
    ·((try dsimp only); omega)
    ·omega
    ·omega
  ·refine CW.exit (id := 0) rfl <| SR <| vm e5_9 <| aU rfl <| RL.nil <| CW.ret <| outP1 Tryd.results60 (congrArg U ?_) hH9.below
   exact owner_yes hr (by omega)
theorem c_name_letter (c : Int) (w : World) : Calls Tryd.prog 48 #[.int .u8 c] w (Pure (B (letterB c)) w) := by
 refine enter Tryd.func48 rfl Tryd.ntmps48 rfl <| have hH := Hp.start w; SR <| va (v := B false) rfl <| RL.nil <| SR <| vm (v := .int _ _) rfl <| V (run_geq rfl rfl) <| mB rfl <| RL.splitP (dj := 5) rfl (fun h2 => ?_) (fun h2 => ?_)
 ·refine gT rfl (bT h2) <| vm (v := .int _ _) rfl <| gT rfl (bT h2) <| V (run_leq rfl rfl) <| V (run_pickT (bT h2) (v := B _) rfl) <| aB rfl <| RL.nil <| CW.ret <| outP1 Tryd.results48 (congrArg B ?_) hH.below
  (rw [letterB, Bool.eq_iff_iff]; simp only [decide_eq_true_eq, Bool.false_eq_true, false_iff]; omega)
 ·refine gF rfl (bF h2) <| gF rfl (bF h2) <| V (run_pickF (bF h2) (v := B false) rfl) <| aB rfl <| RL.nil <| CW.ret <| outP1 Tryd.results48 (congrArg B ?_) hH.below
  (rw [letterB, Bool.eq_iff_iff]; simp only [decide_eq_true_eq, Bool.false_eq_true, false_iff]; omega)
theorem c_name_goes (c : Int) (w : World) : Calls Tryd.prog 49 #[.int .u8 c] w (Pure (B (goesB c)) w) := by
 refine enter Tryd.func49 rfl Tryd.ntmps49 rfl <| have hH := Hp.start w; SR <| va (v := B false) rfl <| RL.nil <| SR <| vm (v := .int _ _) rfl <| RL.callP rfl hH (c_name_letter _  _) (run_call1 call48 rfl) <| fun w1 hH2 => mB rfl <| RL.split (dj := 5) rfl (fun h4 => ?_) (fun h4 => ?_)
 ·refine gF rfl (bR (c := true) h4) <| gF rfl (bR (c := true) h4) <| gF rfl (bR (c := true) h4) <| RL.gU rfl rfl rfl <| RL.gU rfl rfl rfl <| gF rfl (bR (c := true) h4) <| V (run_pickT (bR (c := true) h4) (v := B true) rfl) <| mB rfl <| gF rfl rfl <| gF rfl rfl <| V (run_pickT rfl (v := B true) rfl) <| aB rfl <| RL.nil <| CW.ret <| outP1 Tryd.results49 (congrArg B ?_) hH2.below
  exact (goes_letter ‹_›).symm
 ·refine gT rfl (bR (c := false) h4) <| vm (v := .int _ _) rfl <| gT rfl (bR (c := false) h4) <| V (run_geq rfl rfl) <| gT rfl (bR (c := false) h4) <| mB rfl <| RL.splitP (dj := 8) rfl (fun h6 => ?_) (fun h6 => ?_)
  ·refine gT rfl (bT h6) <| vm (v := .int _ _) rfl <| gT rfl (bT h6) <| V (run_leq rfl rfl) <| gT rfl (bR (c := false) h4) <| V (run_pickT (bT h6) (v := B _) rfl) <| V (run_pickF (bR (c := false) h4) (v := B _) rfl) <| mB rfl <| RL.splitP (dj := 13) rfl (fun h8 => ?_) (fun h8 => ?_)
   ·refine gF rfl (bT h8) <| gF rfl (bT h8) <| V (run_pickT (bT h8) (v := B true) rfl) <| aB rfl <| RL.nil <| CW.ret <| outP1 Tryd.results49 (congrArg B ?_) hH2.below
    (have hlc := ‹letterB c = false›; rw [letterB, decide_eq_false_iff_not] at hlc; rw [goesB, Bool.eq_iff_iff]; simp only [decide_eq_true_eq, Bool.false_eq_true, false_iff, true_iff]; omega)
   ·refine gT rfl (bF h8) <| vm (v := .int _ _) rfl <| gT rfl (bF h8) <| V (run_eql rfl rfl) <| V (run_pickF (bF h8) (v := B _) rfl) <| aB rfl <| RL.nil <| CW.ret <| outP1 Tryd.results49 (congrArg B ?_) hH2.below
    (have hlc := ‹letterB c = false›; rw [letterB, decide_eq_false_iff_not] at hlc; rw [goesB, Bool.eq_iff_iff]; simp only [decide_eq_true_eq, Bool.false_eq_true, false_iff, true_iff]; omega)
  ·refine gF rfl (bF h6) <| gF rfl (bF h6) <| gT rfl (bR (c := false) h4) <| V (run_pickF (bF h6) (v := B false) rfl) <| V (run_pickF (bR (c := false) h4) (v := B _) rfl) <| mB rfl <| gT rfl rfl <| vm (v := .int _ _) rfl <| gT rfl rfl <| V (run_eql rfl rfl) <| V (run_pickF rfl (v := B _) rfl) <| aB rfl <| RL.nil <| CW.ret <| outP1 Tryd.results49 (congrArg B ?_) hH2.below
   (have hlc := ‹letterB c = false›; rw [letterB, decide_eq_false_iff_not] at hlc; rw [goesB, Bool.eq_iff_iff]; simp only [decide_eq_true_eq, Bool.false_eq_true, false_iff, true_iff]; omega)
theorem c_name_Right (s : Tx) (w : World) : Calls Tryd.prog 34 #[S s] w (Pure (B (nameR s)) w) := by
 have htx := @tx_nil s
 refine enter Tryd.func34 rfl Tryd.ntmps34 rfl <| have hH := Hp.start w; SR <| va (v := B false) rfl <| RL.nil <| CW.seq <| SR <| vm (v := .string _) rfl <| V (run_eqlS rfl rfl) <| mB rfl <| RL.splitP (dj := 6) rfl (fun h2 => ?_) (fun h2 => ?_)
 ·refine gF rfl (bT h2) <| gF rfl (bT h2) <| gF rfl (bT h2) <| V (run_pickT (bT h2) (v := B true) rfl) <| mB rfl <| gF rfl rfl <| gF rfl rfl <| gF rfl rfl <| gF rfl rfl <| V (run_pickT rfl (v := B true) rfl) <| RL.nil <| CW.condT rfl <| SR <| va (v := B false) rfl <| RL.nil <| CW.ret <| outP1 Tryd.results34 (congrArg B ?_) hH.below
  exact (nameR_no1 (by have := htx.1 ‹s = tx0›; omega)).symm
 ·refine gT rfl (bF h2) <| vm (v := .string _) rfl <| gT rfl (bF h2) <| V (run_lenStr rfl underlying9 rfl) <| gT rfl (bF h2) <| V (run_gtr rfl rfl) <| V (run_pickF (bF h2) (v := B _) rfl) <| mB rfl <| RL.splitP (dj := 11) rfl (fun h4 => ?_) (fun h4 => ?_)
  ·refine gF rfl (bT h4) <| gF rfl (bT h4) <| gF rfl (bT h4) <| gF rfl (bT h4) <| V (run_pickT (bT h4) (v := B true) rfl) <| RL.nil <| CW.condT rfl <| SR <| va (v := B false) rfl <| RL.nil <| CW.ret <| outP1 Tryd.results34 (congrArg B ?_) hH.below
   exact (nameR_no1 (by omega)).symm
  ·refine gT rfl (bF h4) <| vm (v := .string _) rfl <| gT rfl (bF h4) <| V (run_idxS underlying9 rfl rfl (by have := mt htx.2 ‹¬ s = tx0›; omega)) <| gT rfl (bF h4) <| RL.callP rfl hH (c_name_letter _  _) (run_call1 call48 rfl) <| fun w5 hH6 => gT rfl (bF h4) <| V (run_not rfl) <| V (run_pickF (bF h4) (v := B _) rfl) <| RL.nil <| CW.cond rfl (fun h9 => ?_) (fun h9 => ?_)
   ·refine SR <| va (v := B false) rfl <| RL.nil <| CW.ret <| outP1 Tryd.results34 (congrArg B ?_) hH6.below
    exact (nameR_no2 (nt ‹_›)).symm
   ·refine CW.skip <| CW.seq <| SR <| vm (v := .string _) rfl <| V (run_lenStr rfl underlying9 rfl) <| vm (v := I 0) rfl <| RL.nil <| CW.block <| have hsz : 1 ≤ s.size ∧ s.size ≤ 16 := ⟨by have := mt htx.2 ‹¬ s = tx0›; omega, by omega⟩; CW.loop (G := Int) (fun k s' w' => (Fr (2 :: 3 :: (rg 19 9 [])) _ s') ∧ (Hp w w' _) ∧ (s' 19 = I k) ∧ (0 ≤ k) ∧ (k ≤ s.size) ∧ (∀ j : Int, 0 ≤ j → j < k → goesB (byteAt s j) = true)) (fun k => (s.size - k).toNat) (0) ⟨Fr.refl _ _, hH6, rfl, (by omega), (by omega), fun j a b => absurd b (by omega)⟩ <| ?_
    rintro k sg10 w10 ⟨fr10, hH10, e19_10, h0, hk, hf⟩
    have e0_10 := fr10.ss 0 rfl rfl
    have e18_10 := fr10.ii 18 rfl rfl
    refine SR <| V (run_lss e19_10 e18_10) <| RL.nil <| CW.seq <| CW.condP rfl (fun h12 => ?_) (fun h12 => ?_)
    ·refine CW.skip <| CW.seq <| CW.block <| SR <| vm e19_10 <| aI rfl <| RL.nil <| SR <| vm e0_10 <| mI rfl <| V (run_idxS underlying9 rfl rfl (by omega)) <| RL.callP rfl hH10 (c_name_goes _  _) (run_call1 call49 rfl) <| fun w13 hH14 => V (run_not rfl) <| RL.nil <| CW.cond rfl (fun h17 => ?_) (fun h17 => ?_)
     ·refine SR <| va (v := B false) rfl <| RL.nil <| CW.ret <| outP1 Tryd.results34 (congrArg B ?_) hH14.below
      exact (nameR_no3 h0 ‹_› (nt ‹_›)).symm
     ·refine CW.skip <| CW.region <| V (run_add e19_10 rfl (by omega)) <| mI rfl <| RL.nil <| ?_
      refine ⟨k + 1, ?_, fr10.u4.u4.u1.u1, hH14, (congrArg I (by rfl)), ?_, ?_, ?_⟩
      ·((try dsimp only); omega)
      ·omega
      ·omega
      ·exact fun j a b => if e : j = k then e ▸ nf ‹_› else hf j a (by omega)
    ·refine CW.exit (id := 0) rfl <| SR <| va (v := B true) rfl <| RL.nil <| CW.ret <| outP1 Tryd.results34 (congrArg B ?_) hH10.below
     exact (nameR_yes hsz (nf ‹_›) ‹_› hf).symm
theorem c_name_place (n : Int) (f : FuncId) (cs : List Value) (P : Int → Bool) (hn : 0 ≤ n ∧ n ≤ 9223372036854775807) (w : World) (hf : ∀ args w, (callFunc f args).run Tryd.prog w = .ok (.enter f args) w) (go : ∀ i w', Below w.heap.size w w' → 0 ≤ i → i < n → Calls Tryd.prog f (I i :: cs).toArray w' (Pure (B (P i)) w')) : Calls Tryd.prog 92 #[I 0, I n, .func (.func f) #[] cs.toArray] w (Pure (I (findV P n)) w) := by
 refine enter Tryd.func92 rfl Tryd.ntmps92 rfl <| have hH := Hp.start w; SR <| va (v := I 0) rfl <| RL.nil <| CW.seq <| SR <| mI rfl <| aI rfl <| RL.nil <| CW.block <| CW.loop (G := Int) (fun k s' w' => (Fr (6 :: 7 :: (rg 9 9 [])) _ s') ∧ (Hp w w' _) ∧ (s' 7 = I k) ∧ (0 ≤ k) ∧ (k ≤ n) ∧ (∀ j : Int, 0 ≤ j → j < k → P j = false)) (fun k => (n - k).toNat) (0) ⟨Fr.refl _ _, hH, rfl, (by omega), (by omega), fun j a b => absurd b (by omega)⟩ <| ?_
 rintro k sg1 w1 ⟨fr1, hH1, e7_1, h0, hk, hg⟩
 have e1_1 := fr1.ii 1 rfl rfl
 have e2_1 := fr1.vv 2 (a := .func _ _ _) rfl rfl
 refine CW.seq <| SR <| vm e7_1 <| vm e1_1 <| V (run_lss rfl rfl) <| RL.nil <| CW.condP rfl (fun h3 => ?_) (fun h3 => ?_)
 ·refine CW.skip <| CW.seq <| CW.block <| SR <| vm e2_1 <| vm e7_1 <| RL.callP rfl hH1 (go _ _ hH1.below (by omega) (by omega)) (run_callC1 hf (cs := cs) rfl rfl) <| fun w4 hH5 => RL.nil <| CW.cond rfl (fun h7 => ?_) (fun h7 => ?_)
  ·refine SR <| vm e7_1 <| aI rfl <| RL.nil <| CW.ret <| outP1 Tryd.results92 (congrArg I ?_) hH5.below
   exact (find_yes h0 ‹_› ‹_› hg).symm
  ·refine CW.skip <| CW.region <| vm e7_1 <| V (run_add rfl rfl (by omega)) <| aI rfl <| RL.nil <| ?_
   refine ⟨k + 1, ?_, fr1.u4.u4.u1, hH5, (congrArg I (by rfl)), ?_, ?_, ?_⟩
   ·((try dsimp only); omega)
   ·omega
   ·omega
   ·exact fun j a b => if e : j = k then e ▸ ‹P k = false› else hg j a (by omega)
 ·refine CW.exit (id := 0) rfl <| SR <| va (v := I (-1)) rfl <| RL.nil <| CW.ret <| outP1 Tryd.results92 (congrArg I ?_) hH1.below
  exact (find_no fun j a b => hg j a (by omega)).symm
theorem c_name_Find_1 (b c : Nat) (v : Value) (l : List Tx) (s : Tx) (i : Int) (hi : 0 ≤ i ∧ i < l.length) (w : World) (hs : Sl w v 1 l.length (txL l)) (hb : w.heap[b]? = some (.cells #[v] 39 (0, 0))) (hc : w.heap[c]? = some (.cells #[S s] 9 (0, 0))) : Calls Tryd.prog 99 #[I i, .pointer (some ⟨b, 0, none⟩), .pointer (some ⟨c, 0, none⟩)] w (Pure (B (decide (l.getD i.toNat tx0 = s))) w) := by
 have hm := hs.small
 unfold maxLen at hm
 refine enter Tryd.func99 rfl Tryd.ntmps99 rfl <| have hH := Hp.start w; SR <| va (v := B false) rfl <| RL.nil <| CW.seq <| CW.regionD (by kernel_rfl) hH <| fun w1 hH2 => have zh2 := hH2.sub sR; AT 0 rfl zh2 (fun w hS => run_ld underlying39 rfl rfl (hS.extCell hb rfl)) <| AQ 1 rfl zh2 (mV (I _) rfl) <| AT 2 rfl zh2 (fun w hS => run_indexAddrS (hs.hp hS) underlying39 sizeOf9 rfl rfl (by omega)) <| AT 3 rfl zh2 (fun w hS => run_ld underlying9 rfl rfl ((hs.hp hS).cell _ _ (txL_at (by omega)))) <| AT 4 rfl zh2 (fun w hS => run_ld underlying9 rfl rfl (hS.extCell hc (v := .string _) rfl)) <| AQ 5 rfl zh2 (run_eqlS rfl rfl) <| AQ 6 rfl zh2 (aV (B _) rfl) <| AD <| CW.ret <| outP1 Tryd.results99 (congrArg B ?_) hH2.below
 rfl
theorem c_name_Find (v : Value) (l : List Tx) (s : Tx) (w : World) (hs : Sl w v 1 l.length (txL l)) : Calls Tryd.prog 94 #[v, S s] w (Pure (I (nfind l s)) w) := by
 have hm := hs.small
 unfold maxLen at hm
 refine enter Tryd.func94 rfl Tryd.ntmps94 rfl <| have hH := Hp.start w; SR <| ?_
 refine RL.new rfl hH (f := fun b => (.pointer (some ⟨b, 0, none⟩))) (run_box (by conv => lhs; whnf)) ?_
 intro b3 w1 hH2
 rw [(one_sl hs).2] at hH2
 refine RL.new rfl hH2 (f := fun b => (.pointer (some ⟨b, 0, none⟩))) (run_box (v := .string _) rfl) <| fun b6 w4 hH5 => va (v := I 0) rfl <| RL.nil <| SR <| V (run_ld underlying39 rfl rfl (hH5.cell (i := 1) rfl rfl)) <| V (run_lenSl (hs.hp hH5) rfl underlying39 rfl) <| ?_
 refine V (run_mkF2 (by conv => lhs; whnf) (by conv => lhs; whnf)) ?_
 refine RL.callP rfl hH5 (c_name_place _ 99 [.pointer (some ⟨b3, 0, none⟩), .pointer (some ⟨b6, 0, none⟩)] (fun i => decide (l.getD i.toNat tx0 = s)) (by omega) _ call99 (fun i w h h0 h1 => c_name_Find_1 b3 b6 v l s i ⟨h0, h1⟩ w ((hs.hp hH5).below h) (keep h (hH5.blk (i := 1) rfl)) (keep h (hH5.blk (i := 0) rfl)))) (run_call3 call92 (show _ = I 0 from rfl) rfl rfl) <| fun w7 hH8 => aI rfl <| RL.nil <| CW.ret <| outP1 Tryd.results94 (congrArg I ?_) hH8.below
 rfl
theorem c_name_Twice_1 (b : Nat) (v : Value) (l : List Tx) (i : Int) (hi : 0 ≤ i ∧ i < l.length) (w : World) (hs : Sl w v 1 l.length (txL l)) (hb : w.heap[b]? = some (.cells #[v] 39 (0, 0))) : Calls Tryd.prog 93 #[I i, .pointer (some ⟨b, 0, none⟩)] w (Pure (B (decide (nfind l (l.getD i.toNat tx0) < i))) w) := by
 have hm := hs.small
 unfold maxLen at hm
 refine enter Tryd.func93 rfl Tryd.ntmps93 rfl <| have hH := Hp.start w; SR <| va (v := B false) rfl <| RL.nil <| CW.seq <| CW.regionD (by kernel_rfl) hH <| fun w1 hH2 => have zh2 := hH2.sub sR; AT 0 rfl zh2 (fun w hS => run_ld underlying39 rfl rfl (hS.extCell hb rfl)) <| AQ 1 rfl zh2 (mV (I _) rfl) <| AT 3 rfl zh2 (fun w hS => run_ld underlying39 rfl rfl (hS.extCell hb rfl)) <| AQ 4 rfl zh2 (mV (I _) rfl) <| AT 5 rfl zh2 (fun w hS => run_indexAddrS (hs.hp hS) underlying39 sizeOf9 rfl rfl (by omega)) <| AT 6 rfl zh2 (fun w hS => run_ld underlying9 rfl rfl ((hs.hp hS).cell _ _ (txL_at (by omega)))) <| A1 2 <| AO.read rfl gnone rfl hH2 sR (run_cut (hs.hp hH2) underlying39 sizeOf9 rfl rfl (by omega)) <| A1 7 <| AO.callP rfl gnone rfl hH2 sR (c_name_Find _ _ _  _ ((hs.hp hH2).cutT (by omega))) (run_call2 call94 rfl rfl) <| fun w5 hH6 => AQ 8 rfl (hH6.sub sR) (run_geq rfl rfl) <| AQ 9 rfl (hH6.sub sR) (aV (B _) rfl) <| AD <| CW.ret <| outP1 Tryd.results93 (congrArg B ?_) hH6.below
 exact tx_ahead hi.1 hi.2
theorem c_name_Twice (v : Value) (l : List Tx) (w : World) (hs : Sl w v 1 l.length (txL l)) : Calls Tryd.prog 78 #[v] w (Pure (I (twice l)) w) := by
 have hm := hs.small
 unfold maxLen at hm
 refine enter Tryd.func78 rfl Tryd.ntmps78 rfl <| have hH := Hp.start w; SR <| ?_
 refine RL.new rfl hH (f := fun b => (.pointer (some ⟨b, 0, none⟩))) (run_box (by conv => lhs; whnf)) ?_
 intro b3 w1 hH2
 rw [(one_sl hs).2] at hH2
 refine va (v := I 0) rfl <| RL.nil <| SR <| V (run_ld underlying39 rfl rfl (hH2.cell (i := 0) rfl rfl)) <| V (run_lenSl (hs.hp hH2) rfl underlying39 rfl) <| ?_
 refine V (run_mkF1 (by conv => lhs; whnf)) ?_
 refine RL.callP rfl hH2 (c_name_place _ 93 [.pointer (some ⟨b3, 0, none⟩)] (fun i => decide (nfind l (l.getD i.toNat tx0) < i)) (by omega) _ call93 (fun i w h h0 h1 => c_name_Twice_1 b3 v l i ⟨h0, h1⟩ w ((hs.hp hH2).below h) (keep h (hH2.blk (i := 0) rfl)))) (run_call3 call92 (show _ = I 0 from rfl) rfl rfl) <| fun w4 hH5 => aI rfl <| RL.nil <| CW.ret <| outP1 Tryd.results78 (congrArg I ?_) hH5.below
 rfl
theorem c_shape_named (v : Value) (l : List Tx) (w : World) (hs : Sl w v 1 l.length (txL l)) : Calls Tryd.prog 63 #[v] w (Pure (B (namedF l)) w) := by
 have hm := hs.small
 unfold maxLen at hm
 refine enter Tryd.func63 rfl Tryd.ntmps63 rfl <| have hH := Hp.start w; SR <| va (v := B false) rfl <| RL.nil <| CW.seq <| SR <| ?_
 refine V (run_move (by conv => lhs; whnf)) ?_
 refine V (run_lenSl (hs.hp hH) rfl underlying39 rfl) <| V (run_lss rfl rfl) <| mB rfl <| RL.splitP (dj := 8) rfl (fun h2 => ?_) (fun h2 => ?_)
 ·refine gF rfl (bT h2) <| gF rfl (bT h2) <| gF rfl (bT h2) <| V (run_pickT (bT h2) (v := B true) rfl) <| mB rfl <| gF rfl rfl <| gF rfl rfl <| gF rfl rfl <| V (run_pickT rfl (v := B true) rfl) <| RL.nil <| CW.condT rfl <| SR <| va (v := B false) rfl <| RL.nil <| CW.ret <| outP1 Tryd.results63 (congrArg B ?_) hH.below
  exact (named_no1 (by omega)).symm
 ·refine gT rfl (bF h2) ?_
  refine V (run_move (by conv => lhs; whnf)) ?_
  refine gT rfl (bF h2) <| V (run_lenSl (hs.hp hH) rfl underlying39 rfl) <| gT rfl (bF h2) <| V (run_gtr rfl rfl) <| V (run_pickF (bF h2) (v := B _) rfl) <| mB rfl <| RL.splitP (dj := 13) rfl (fun h4 => ?_) (fun h4 => ?_)
  ·refine gF rfl (bT h4) <| gF rfl (bT h4) <| gF rfl (bT h4) <| V (run_pickT (bT h4) (v := B true) rfl) <| RL.nil <| CW.condT rfl <| SR <| va (v := B false) rfl <| RL.nil <| CW.ret <| outP1 Tryd.results63 (congrArg B ?_) hH.below
   exact (named_no1 (by omega)).symm
  ·refine gT rfl (bF h4) ?_
   refine V (run_move (by conv => lhs; whnf)) ?_
   refine gT rfl (bF h4) <| RL.callP rfl hH (c_name_Twice _ _  _ (hs.hp hH)) (run_call1 call78 rfl) <| fun w5 hH6 => gT rfl (bF h4) <| V (run_geq rfl rfl) <| V (run_pickF (bF h4) (v := B _) rfl) <| RL.nil <| CW.condP rfl (fun h8 => ?_) (fun h8 => ?_)
   ·refine SR <| va (v := B false) rfl <| RL.nil <| CW.ret <| outP1 Tryd.results63 (congrArg B ?_) hH6.below
    exact (named_no2 (by omega)).symm
   ·refine CW.skip <| CW.seq <| SR <| ?_
    refine V (run_move (by conv => lhs; whnf)) ?_
    refine V (run_lenSl (hs.hp hH6) rfl underlying39 rfl) <| vm (v := I 0) rfl <| RL.nil <| CW.block <| have hn1 : 1 ≤ l.length ∧ l.length ≤ 64 := (by omega); have hn2 : twice l < 0 := (by omega); CW.loop (G := Int) (fun k s' w' => (Fr (2 :: (4 :: (rg 20 8 []))) _ s') ∧ (Hp w w' _) ∧ (s' 20 = I k) ∧ (0 ≤ k) ∧ (k ≤ l.length) ∧ (∀ j : Int, 0 ≤ j → j < k → nameR (l.getD j.toNat tx0) = true)) (fun k => (l.length - k).toNat) (0) ⟨Fr.refl _ _, hH6, rfl, (by omega), (by omega), fun j a b => absurd b (by omega)⟩ <| ?_
    rintro k sg9 w9 ⟨fr9, hH9, e20_9, h0, hk, hg⟩
    have e18_9 := (fr9 18 rfl).trans (by conv => lhs; whnf)
    have e19_9 := fr9.ii 19 rfl rfl
    refine SR <| V (run_lss e20_9 e19_9) <| RL.nil <| CW.seq <| CW.condP rfl (fun h11 => ?_) (fun h11 => ?_)
    ·refine CW.skip <| CW.seq <| CW.block <| SR <| V (run_indexAddrS (hs.hp hH9) underlying39 sizeOf9 e18_9 e20_9 (by omega)) <| V (run_ld underlying9 rfl rfl ((hs.hp hH9).cell _ _ (txL_at (by omega)))) <| va (v := .string _) rfl <| RL.nil <| SR <| vm (v := .string _) rfl <| RL.callP rfl hH9 (c_name_Right _  _) (run_call1 call34 rfl) <| fun w12 hH13 => V (run_not rfl) <| RL.nil <| CW.cond rfl (fun h16 => ?_) (fun h16 => ?_)
     ·refine SR <| va (v := B false) rfl <| RL.nil <| CW.ret <| outP1 Tryd.results63 (congrArg B ?_) hH13.below
      exact (named_no3 h0 ‹_› (nt ‹_›)).symm
     ·refine CW.skip <| CW.region <| V (run_add e20_9 rfl (by omega)) <| mI rfl <| RL.nil <| ?_
      refine ⟨k + 1, ?_, fr9.u4.u4.u1, hH13, (congrArg I (by rfl)), ?_, ?_, ?_⟩
      ·((try dsimp only); omega)
      ·omega
      ·omega
      ·exact fun j a b => if e : j = k then e ▸ nf ‹_› else hg j a (by omega)
    ·refine CW.exit (id := 0) rfl <| SR <| va (v := B true) rfl <| RL.nil <| CW.ret <| outP1 Tryd.results63 (congrArg B ?_) hH9.below
     exact (named_yes hn1 hn2 ‹_› hg).symm
theorem c_shape_factor (f : Fac) (w : World) (hf : FacV (Kw w) f) (hT : Tab w) : Calls Tryd.prog 43 #[.agg (facC f)] w (Pure (B (factorR f.fc)) w) := by
 have hm := hf.names.sl.small
 unfold maxLen at hm
 refine enter Tryd.func43 rfl Tryd.ntmps43 rfl <| have hH := Hp.start w; SR <| RL.new rfl hH (f := fun b => (.pointer (some ⟨b, 0, none⟩))) (run_box (v := .agg _) rfl) <| fun b3 w1 hH2 => va (v := B false) rfl <| RL.nil <| CW.seq <| SR <| V (fA underlying44 1 rfl sizeOf39 rfl) <| V (run_ld underlying39 rfl rfl (hH2.cell (i := 0) rfl rfl)) <| RL.callP rfl hH2 (c_shape_named _ _  _ (hf.names.sl.hp hH2)) (run_call1 call63 rfl) <| fun w4 hH5 => V (run_not rfl) <| RL.nil <| CW.cond rfl (fun h8 => ?_) (fun h8 => ?_)
 ·refine SR <| va (v := B false) rfl <| RL.nil <| CW.ret <| outP1 Tryd.results43 (congrArg B ?_) hH5.below
  exact (fac_no (f := f.fc) (nt ‹_›)).symm
 ·refine CW.skip <| CW.seq <| SR <| V (fA underlying44 0 rfl sizeOf3 rfl) <| V (run_ld underlying3 rfl rfl (hH5.cell (i := 0) rfl (v := I _) rfl)) <| RL.nil <| CW.block <| CW.seq <| SR <| V (run_eql rfl rfl) <| aB rfl <| RL.nil <| CW.condP rfl (fun h10 => ?_) (fun h10 => ?_)
  ·refine CW.skip <| CW.condT (bT h10) <| SR <| V (fA underlying44 2 rfl sizeOf42 rfl) <| V (run_ldBR underlying42 rfl rfl rfl (hH5.blk (i := 0) rfl)) <| V (run_bld (vs := []) rfl built_rel0) <| RL.callP rfl hH5 (c_relate_Same _ _  _) (run_call2 call64 rfl rfl) <| fun w11 hH12 => aB rfl <| RL.nil <| CW.ret <| outP1 Tryd.results43 (congrArg B ?_) hH12.below
   exact (fac_12s (f := f.fc) (nf ‹(!namedF f.names) = false›) (.inl ‹_›)).symm
  ·refine CW.region <| V (run_eql rfl rfl) <| aB rfl <| RL.nil <| CW.condP rfl (fun h16 => ?_) (fun h16 => ?_)
   ·refine SR <| V (fA underlying44 2 rfl sizeOf42 rfl) <| V (run_ldBR underlying42 rfl rfl rfl (hH5.blk (i := 0) rfl)) <| V (run_bld (vs := []) rfl built_rel0) <| RL.callP rfl hH5 (c_relate_Same _ _  _) (run_call2 call64 rfl rfl) <| fun w17 hH18 => aB rfl <| RL.nil <| CW.ret <| outP1 Tryd.results43 (congrArg B ?_) hH18.below
    exact (fac_12s (f := f.fc) (nf ‹(!namedF f.names) = false›) (.inr ‹_›)).symm
   ·refine SR <| V (run_eql rfl rfl) <| aB rfl <| RL.nil <| CW.condP rfl (fun h22 => ?_) (fun h22 => ?_)
    ·refine SR <| V (fA underlying44 2 rfl sizeOf42 rfl) <| V (fA underlying42 0 rfl sizeOf3 rfl) <| V (run_ld underlying3 rfl rfl (hH5.cell (i := 0) rfl (v := I _) rfl)) <| V (fA underlying44 1 rfl sizeOf39 rfl) <| V (run_ld underlying39 rfl rfl (hH5.cell (i := 0) rfl rfl)) <| V (run_lenSl (hf.names.sl.hp hH5) rfl underlying39 rfl) <| V (run_eql rfl rfl) <| mB rfl <| RL.splitP (dj := 25) rfl (fun h24 => ?_) (fun h24 => ?_)
     ·refine gT rfl (bT h24) <| V (fA underlying44 2 rfl sizeOf42 rfl) <| gT rfl (bT h24) <| V (run_ldBR underlying42 rfl rfl rfl (hH5.blk (i := 0) rfl)) <| gT rfl (bT h24) <| RL.callP rfl hH5 (c_grid_Right _  _) (run_call1 call65 rfl) <| fun w25 hH26 => V (run_pickT (bT h24) (v := B _) rfl) <| aB rfl <| RL.nil <| CW.ret <| outP1 Tryd.results43 (congrArg B ?_) hH26.below
      exact (fac_3y (f := f.fc) (nf ‹(!namedF f.names) = false›) ‹_› ‹_›).symm
     ·refine gF rfl (bF h24) <| gF rfl (bF h24) <| gF rfl (bF h24) <| V (run_pickF (bF h24) (v := B false) rfl) <| aB rfl <| RL.nil <| CW.ret <| outP1 Tryd.results43 (congrArg B ?_) hH5.below
      exact (fac_3n (f := f.fc) ‹_› ‹_›).symm
    ·refine SR <| V (run_eql rfl rfl) <| aB rfl <| RL.nil <| CW.condP rfl (fun h29 => ?_) (fun h29 => ?_)
     ·refine SR <| V (fA underlying44 2 rfl sizeOf42 rfl) <| V (fA underlying42 0 rfl sizeOf3 rfl) <| V (run_ld underlying3 rfl rfl (hH5.cell (i := 0) rfl (v := I _) rfl)) <| V (fA underlying44 1 rfl sizeOf39 rfl) <| V (run_ld underlying39 rfl rfl (hH5.cell (i := 0) rfl rfl)) <| V (run_lenSl (hf.names.sl.hp hH5) rfl underlying39 rfl) <| V (run_eql rfl rfl) <| mB rfl <| RL.splitP (dj := 39) rfl (fun h31 => ?_) (fun h31 => ?_)
      ·refine gT rfl (bT h31) <| V (fA underlying44 2 rfl sizeOf42 rfl) <| gT rfl (bT h31) <| V (run_ldBR underlying42 rfl rfl rfl (hH5.blk (i := 0) rfl)) <| gT rfl (bT h31) <| RL.callP rfl hH5 (c_hasse_Lattice _  _ (hT.hp hH5)) (run_call1 call66 rfl) <| fun w32 hH33 => V (run_pickT (bT h31) (v := B _) rfl) <| aB rfl <| RL.nil <| CW.ret <| outP1 Tryd.results43 (congrArg B ?_) hH33.below
       exact (fac_4y (f := f.fc) (nf ‹(!namedF f.names) = false›) ‹_› ‹_›).symm
      ·refine gF rfl (bF h31) <| gF rfl (bF h31) <| gF rfl (bF h31) <| V (run_pickF (bF h31) (v := B false) rfl) <| aB rfl <| RL.nil <| CW.ret <| outP1 Tryd.results43 (congrArg B ?_) hH5.below
       exact (fac_4n (f := f.fc) ‹_› ‹_›).symm
     ·refine CW.skip <| SR <| va (v := B false) rfl <| RL.nil <| CW.ret <| outP1 Tryd.results43 (congrArg B ?_) hH5.below
      exact (fac_x (f := f.fc) ‹_› ‹_› ‹_› ‹_›).symm
theorem c_shape_Right (s : Shp) (w : World) (hs : ShpV (Kw w) s) (hT : Tab w) : Calls Tryd.prog 32 #[.agg (shpC s)] w (Pure (B (shR s.sh)) w) := by
 have hsl := sh_len s
 have hm := hs.facs.sl.small
 unfold maxLen at hm
 refine enter Tryd.func32 rfl Tryd.ntmps32 rfl <| have hH := Hp.start w; SR <| RL.new rfl hH (f := fun b => (.pointer (some ⟨b, 0, none⟩))) (run_box (v := .agg _) rfl) <| fun b3 w1 hH2 => va (v := B false) rfl <| RL.nil <| SR <| V (fA underlying47 1 rfl sizeOf45 rfl) <| V (run_ld underlying45 rfl rfl (hH2.cell (i := 0) rfl rfl)) <| V (run_lenSl (hs.facs.sl.hp hH2) rfl underlying45 rfl) <| aI rfl <| RL.nil <| CW.seq <| SR <| mI rfl <| V (run_lss rfl rfl) <| mB rfl <| RL.splitP (dj := 11) rfl (fun h5 => ?_) (fun h5 => ?_)
 ·refine gF rfl (bT h5) <| gF rfl (bT h5) <| V (run_pickT (bT h5) (v := B true) rfl) <| mB rfl <| gF rfl rfl <| gF rfl rfl <| gF rfl rfl <| gF rfl rfl <| RL.gU rfl rfl rfl <| RL.gU rfl rfl rfl <| gF rfl rfl <| V (run_pickT rfl (v := B true) rfl) <| RL.nil <| CW.condT rfl <| SR <| va (v := B false) rfl <| RL.nil <| CW.ret <| outP1 Tryd.results32 (congrArg B ?_) hH2.below
  exact (shR_no1 (by omega)).symm
 ·refine gT rfl (bF h5) <| mI rfl <| gT rfl (bF h5) <| V (run_gtr rfl rfl) <| V (run_pickF (bF h5) (v := B _) rfl) <| mB rfl <| RL.splitP (dj := 15) rfl (fun h7 => ?_) (fun h7 => ?_)
  ·refine gF rfl (bT h7) <| gF rfl (bT h7) <| gF rfl (bT h7) <| gF rfl (bT h7) <| RL.gU rfl rfl rfl <| RL.gU rfl rfl rfl <| gF rfl (bT h7) <| V (run_pickT (bT h7) (v := B true) rfl) <| RL.nil <| CW.condT rfl <| SR <| va (v := B false) rfl <| RL.nil <| CW.ret <| outP1 Tryd.results32 (congrArg B ?_) hH2.below
   exact (shR_no1 (by omega)).symm
  ·refine gT rfl (bF h7) <| V (fA underlying47 0 rfl sizeOf4 rfl) <| gT rfl (bF h7) <| V (run_ld underlying4 rfl rfl (hH2.cell (i := 0) rfl (v := B _) rfl)) <| gT rfl (bF h7) <| V (run_not rfl) <| gT rfl (bF h7) <| mB rfl <| RL.split (dj := 19) rfl (fun h10 => ?_) (fun h10 => ?_)
   ·refine gT rfl (bR (c := true) h10) <| mI rfl <| gT rfl (bR (c := true) h10) <| V (run_neq rfl rfl) <| gT rfl (bF h7) <| V (run_pickT (bR (c := true) h10) (v := B _) rfl) <| V (run_pickF (bF h7) (v := B _) rfl) <| RL.nil <| CW.condP rfl (fun h12 => ?_) (fun h12 => ?_)
    ·refine SR <| va (v := B false) rfl <| RL.nil <| CW.ret <| outP1 Tryd.results32 (congrArg B ?_) hH2.below
     exact (shR_no2 (by exact nt ‹_›) (by omega)).symm
    ·refine CW.skip <| CW.seq <| SR <| V (fA underlying47 1 rfl sizeOf45 rfl) <| V (run_ld underlying45 rfl rfl (hH2.cell (i := 0) rfl rfl)) <| V (run_lenSl (hs.facs.sl.hp hH2) rfl underlying45 rfl) <| vm (v := I 0) rfl <| RL.nil <| CW.block <| have hc2 : s.sh.tuple = true ∨ s.sh.facs.length = 1 := (by exact .inr (by omega)); have hc1 : 1 ≤ s.facs.length ∧ s.facs.length ≤ 8 := (by omega); CW.loop (G := Int) (fun k s' w' => (Fr (2 :: (5 :: (rg 27 8 []))) _ s') ∧ (Hp w w' _) ∧ (s' 27 = I k) ∧ (0 ≤ k) ∧ (k ≤ s.facs.length) ∧ (∀ j : Int, 0 ≤ j → j < k → factorR (s.facs.getD j.toNat fac0).fc = true)) (fun k => (s.facs.length - k).toNat) (0) ⟨Fr.refl _ _, hH2, rfl, (by omega), (by omega), fun j a b => absurd b (by omega)⟩ <| ?_
     rintro k sg13 w13 ⟨fr13, hH13, e27_13, h0, hk, hg⟩
     have e25_13 := (fr13 25 rfl).trans (by conv => lhs; whnf)
     have e26_13 := fr13.ii 26 rfl rfl
     refine SR <| V (run_lss e27_13 e26_13) <| RL.nil <| CW.seq <| CW.condP rfl (fun h15 => ?_) (fun h15 => ?_)
     ·refine CW.skip <| CW.seq <| CW.block <| SR <| V (run_indexAddrS (hs.facs.sl.hp hH13) underlying45 sizeOf44 e25_13 e27_13 (by omega)) <| V (run_ldE (dv := fac0) facL_len (hs.facs.sl.hp hH13) underlying44 rfl rfl rfl (by omega)) <| RL.new rfl hH13 (f := fun b => (.pointer (some ⟨b, 0, none⟩))) (run_alloc zero_fac) <| fun b18 w16 hH17 => RL.set hH17 (i := 0) rfl (run_stFac (hs.at (by omega) (by omega)) rfl rfl rfl (hH17.blk (i := 0) rfl)) <| fun w19 hH20 => ?_
      simp only [z2] at hH20
      refine RL.nil <| SR <| V (run_ldFac underlying44 rfl rfl rfl (hH20.blk (i := 0) rfl)) <| RL.callP rfl hH20 (c_shape_factor _  _ ((hs.at (by omega) (by omega)).mono hH20.kw) (hT.hp hH20)) (run_call1 call43 rfl) <| fun w21 hH22 => V (run_not rfl) <| RL.nil <| CW.cond rfl (fun h25 => ?_) (fun h25 => ?_)
      ·refine SR <| va (v := B false) rfl <| RL.nil <| CW.ret <| outP1 Tryd.results32 (congrArg B ?_) hH22.below
       exact (shR_no3 (k := k) h0 (by omega) (by rw [sh_get]; exact nt ‹_›)).symm
      ·refine CW.skip <| CW.region <| V (run_add e27_13 rfl (by omega)) <| mI rfl <| RL.nil <| ?_
       refine ⟨k + 1, ?_, fr13.u4.u4.u1, (hH22.sub (sQ sR)), (congrArg I (by rfl)), ?_, ?_, ?_⟩
       ·((try dsimp only); omega)
       ·omega
       ·omega
       ·exact fun j a b => if e : j = k then e ▸ nf ‹_› else hg j a (by omega)
     ·refine CW.exit (id := 0) rfl <| SR <| va (v := B true) rfl <| RL.nil <| CW.ret <| outP1 Tryd.results32 (congrArg B ?_) hH13.below
      exact (shR_yes (k := k) (by omega) hc2 (by omega) fun j a b => by rw [sh_get]; exact hg j a b).symm
   ·refine gF rfl (bR (c := false) h10) <| gF rfl (bR (c := false) h10) <| gT rfl (bF h7) <| V (run_pickF (bR (c := false) h10) (v := B false) rfl) <| V (run_pickF (bF h7) (v := B _) rfl) <| RL.nil <| CW.condF rfl <| CW.skip <| CW.seq <| SR <| V (fA underlying47 1 rfl sizeOf45 rfl) <| V (run_ld underlying45 rfl rfl (hH2.cell (i := 0) rfl rfl)) <| V (run_lenSl (hs.facs.sl.hp hH2) rfl underlying45 rfl) <| vm (v := I 0) rfl <| RL.nil <| CW.block <| have hc2 : s.sh.tuple = true ∨ s.sh.facs.length = 1 := (by exact .inl (nf ‹(!s.tuple) = false›)); have hc1 : 1 ≤ s.facs.length ∧ s.facs.length ≤ 8 := (by omega); CW.loop (G := Int) (fun k s' w' => (Fr (2 :: (5 :: (rg 27 8 []))) _ s') ∧ (Hp w w' _) ∧ (s' 27 = I k) ∧ (0 ≤ k) ∧ (k ≤ s.facs.length) ∧ (∀ j : Int, 0 ≤ j → j < k → factorR (s.facs.getD j.toNat fac0).fc = true)) (fun k => (s.facs.length - k).toNat) (0) ⟨Fr.refl _ _, hH2, rfl, (by omega), (by omega), fun j a b => absurd b (by omega)⟩ <| ?_
    rintro k sg26 w26 ⟨fr26, hH26, e27_26, h0, hk, hg⟩
    have e25_26 := (fr26 25 rfl).trans (by conv => lhs; whnf)
    have e26_26 := fr26.ii 26 rfl rfl
    refine SR <| V (run_lss e27_26 e26_26) <| RL.nil <| CW.seq <| CW.condP rfl (fun h28 => ?_) (fun h28 => ?_)
    ·refine CW.skip <| CW.seq <| CW.block <| SR <| V (run_indexAddrS (hs.facs.sl.hp hH26) underlying45 sizeOf44 e25_26 e27_26 (by omega)) <| V (run_ldE (dv := fac0) facL_len (hs.facs.sl.hp hH26) underlying44 rfl rfl rfl (by omega)) <| RL.new rfl hH26 (f := fun b => (.pointer (some ⟨b, 0, none⟩))) (run_alloc zero_fac) <| fun b31 w29 hH30 => RL.set hH30 (i := 0) rfl (run_stFac (hs.at (by omega) (by omega)) rfl rfl rfl (hH30.blk (i := 0) rfl)) <| fun w32 hH33 => ?_
     simp only [z2] at hH33
     refine RL.nil <| SR <| V (run_ldFac underlying44 rfl rfl rfl (hH33.blk (i := 0) rfl)) <| RL.callP rfl hH33 (c_shape_factor _  _ ((hs.at (by omega) (by omega)).mono hH33.kw) (hT.hp hH33)) (run_call1 call43 rfl) <| fun w34 hH35 => V (run_not rfl) <| RL.nil <| CW.cond rfl (fun h38 => ?_) (fun h38 => ?_)
     ·refine SR <| va (v := B false) rfl <| RL.nil <| CW.ret <| outP1 Tryd.results32 (congrArg B ?_) hH35.below
      exact (shR_no3 (k := k) h0 (by omega) (by rw [sh_get]; exact nt ‹_›)).symm
     ·refine CW.skip <| CW.region <| V (run_add e27_26 rfl (by omega)) <| mI rfl <| RL.nil <| ?_
      refine ⟨k + 1, ?_, fr26.u4.u4.u1, (hH35.sub (sQ sR)), (congrArg I (by rfl)), ?_, ?_, ?_⟩
      ·((try dsimp only); omega)
      ·omega
      ·omega
      ·exact fun j a b => if e : j = k then e ▸ nf ‹_› else hg j a (by omega)
    ·refine CW.exit (id := 0) rfl <| SR <| va (v := B true) rfl <| RL.nil <| CW.ret <| outP1 Tryd.results32 (congrArg B ?_) hH26.below
     exact (shR_yes (k := k) (by omega) hc2 (by omega) fun j a b => by rw [sh_get]; exact hg j a b).symm
theorem c_shape_word (f : Fac) (s : BitVec 64) (w : World) (hf : FacV (Kw w) f) (hT : Tab w) : Calls Tryd.prog 33 #[.agg (facC f), U s] w (Pure (B (wordF f.fc s)) w) := by
 have hm := hf.names.sl.small
 unfold maxLen at hm
 refine enter Tryd.func33 rfl Tryd.ntmps33 rfl <| have hH := Hp.start w; SR <| RL.new rfl hH (f := fun b => (.pointer (some ⟨b, 0, none⟩))) (run_box (v := .agg _) rfl) <| fun b3 w1 hH2 => va (v := B false) rfl <| RL.nil <| CW.seq <| SR <| V (fA underlying44 0 rfl sizeOf3 rfl) <| V (run_ld underlying3 rfl rfl (hH2.cell (i := 0) rfl (v := I _) rfl)) <| RL.nil <| CW.block <| SR <| V (run_eql rfl rfl) <| aB rfl <| RL.nil <| CW.condP rfl (fun h5 => ?_) (fun h5 => ?_)
 ·refine SR <| V (fA underlying44 1 rfl sizeOf39 rfl) <| V (run_ld underlying39 rfl rfl (hH2.cell (i := 0) rfl rfl)) <| V (run_lenSl (hf.names.sl.hp hH2) rfl underlying39 rfl) <| mU rfl <| RL.callP rfl hH2 (c_rung_Right _ _  _) (run_call2 call44 rfl rfl) <| fun w6 hH7 => aB rfl <| RL.nil <| CW.ret <| outP1 Tryd.results33 (congrArg B ?_) hH7.below
  exact (word1 (f := f.fc) ‹_› s).symm
 ·refine SR <| V (run_eql rfl rfl) <| aB rfl <| RL.nil <| CW.condP rfl (fun h10 => ?_) (fun h10 => ?_)
  ·refine SR <| mU rfl <| V (fA underlying44 1 rfl sizeOf39 rfl) <| V (run_ld underlying39 rfl rfl (hH2.cell (i := 0) rfl rfl)) <| V (run_lenSl (hf.names.sl.hp hH2) rfl underlying39 rfl) <| RL.callP rfl hH2 (c_mask_Below _  _) (run_call1 call45 rfl) <| fun w11 hH12 => RL.callP rfl hH12 (c_mask_Sub _ _  _) (run_call2 call35 rfl rfl) <| fun w13 hH14 => aB rfl <| RL.nil <| CW.ret <| outP1 Tryd.results33 (congrArg B ?_) hH14.below
   exact (word2 (f := f.fc) ‹_› s).symm
  ·refine SR <| V (run_eql rfl rfl) <| aB rfl <| RL.nil <| CW.condP rfl (fun h17 => ?_) (fun h17 => ?_)
   ·refine SR <| V (fA underlying44 2 rfl sizeOf42 rfl) <| V (run_ldBR underlying42 rfl rfl rfl (hH2.blk (i := 0) rfl)) <| mU rfl <| RL.callP rfl hH2 (c_grid_Closed _ _  _ (hT.hp hH2)) (run_call2 call46 rfl rfl) <| fun w18 hH19 => aB rfl <| RL.nil <| CW.ret <| outP1 Tryd.results33 (congrArg B ?_) hH19.below
    exact (word3 (f := f.fc) ‹_› s).symm
   ·refine CW.skip <| SR <| V (fA underlying44 2 rfl sizeOf42 rfl) <| V (run_ldBR underlying42 rfl rfl rfl (hH2.blk (i := 0) rfl)) <| mU rfl <| RL.callP rfl hH2 (c_hasse_Point _ _  _ (hT.hp hH2)) (run_call2 call47 rfl rfl) <| fun w21 hH22 => ?_
    refine V (run_move (by conv => lhs; whnf)) ?_
    refine V (run_extract rfl (v := I _) rfl) <| V (run_extract rfl (v := B _) rfl) <| aI rfl <| aB rfl <| RL.nil <| SR <| mB rfl <| aB rfl <| RL.nil <| CW.ret <| outP1 Tryd.results33 (congrArg B ?_) hH22.below
    exact (wordx (f := f.fc) ‹_› ‹_› ‹_› s).symm
theorem c_shape_Fits (s : Shp) (e : El) (w : World) (hs : ShpV (Kw w) s) (hT : Tab w) : Calls Tryd.prog 21 #[.agg (shpC s), .agg (elC e)] w (Pure (B (fitsS s.sh e)) w) := by
 have hsl := sh_len s
 have hm := hs.facs.sl.small
 unfold maxLen at hm
 refine enter Tryd.func21 rfl Tryd.ntmps21 rfl <| have hH := Hp.start w; SR <| RL.new rfl hH (f := fun b => (.pointer (some ⟨b, 0, none⟩))) (run_box (v := .agg _) rfl) <| fun b3 w1 hH2 => RL.new rfl hH2 (f := fun b => (.pointer (some ⟨b, 0, none⟩))) (run_box (v := .agg _) rfl) <| fun b6 w4 hH5 => va (v := B false) rfl <| RL.nil <| CW.seq <| SR <| V (run_ldA (cs := [B _, _]) underlying47 rfl rfl rfl (rangeAt_cells (hH5.blk (i := 1) rfl))) <| RL.callP rfl hH5 (c_shape_Right _  _ (hs.mono hH5.kw) (hT.hp hH5)) (run_call1 call32 rfl) <| fun w7 hH8 => V (run_not rfl) <| RL.nil <| CW.cond rfl (fun h11 => ?_) (fun h11 => ?_)
 ·refine SR <| va (v := B false) rfl <| RL.nil <| CW.ret <| outP1 Tryd.results21 (congrArg B ?_) hH8.below
  exact (fits_no1 (nt ‹_›)).symm
 ·refine CW.skip <| CW.seq <| SR <| V (run_ldEl underlying25 rfl rfl rfl (hH8.blk (i := 0) rfl)) <| vm (v := I 0) rfl <| RL.nil <| CW.block <| have hr : shR s.sh = true := nf ‹_›; CW.loop (G := Int) (fun k s' w' => (Fr (rg 4 3 (rg 11 20 [])) _ s') ∧ (Hp w w' _) ∧ (s' 11 = I k) ∧ (0 ≤ k) ∧ (k ≤ 8) ∧ (FitTo s.sh e k)) (fun k => (8 - k).toNat) (0) ⟨Fr.refl _ _, hH8, rfl, (by omega), (by omega), FitTo.none _ _⟩ <| ?_
  rintro k sg12 w12 ⟨fr12, hH12, e11_12, h0, hk, hf⟩
  have e2_12 := fr12.pp 2 rfl rfl
  have e10_12 := fr12.aa 10 rfl rfl
  refine SR <| V (run_lss e11_12 rfl) <| RL.nil <| CW.seq <| CW.condP rfl (fun h14 => ?_) (fun h14 => ?_)
  ·refine CW.skip <| CW.seq <| CW.block <| SR <| vm e11_12 <| V (run_indexA underlying25 isAgg23 sizeOf23 e10_12 e11_12 (by omega) (elC_ix _ (by omega))) <| aI rfl <| aU rfl <| RL.nil <| CW.seq <| SR <| mI rfl <| V (fA underlying47 1 rfl sizeOf45 e2_12) <| V (run_ld underlying45 rfl rfl (hH12.cell (i := 1) rfl rfl)) <| V (run_lenSl (hs.facs.sl.hp hH12) rfl underlying45 rfl) <| V (run_geq rfl rfl) <| RL.nil <| CW.condP rfl (fun h16 => ?_) (fun h16 => ?_)
   ·refine CW.seq <| SR <| mU rfl <| V (run_neqU rfl (b := 0#64) rfl) <| RL.nil <| CW.condP rfl (fun h18 => ?_) (fun h18 => ?_)
    ·refine SR <| va (v := B false) rfl <| RL.nil <| CW.ret <| outP1 Tryd.results21 (congrArg B ?_) hH12.below
     exact (fits_no3 h0 ‹_› (by omega) ‹_›).symm
    ·refine CW.skip <| CW.exit (id := 1) rfl <| CW.region <| V (run_add e11_12 rfl (by omega)) <| mI rfl <| RL.nil <| ?_
     refine ⟨k + 1, ?_, fr12.u4.u4.u4.u1.u1, hH12, (congrArg I (by rfl)), ?_, ?_, ?_⟩
     ·((try dsimp only); omega)
     ·omega
     ·omega
     ·exact hf.next (fun h => by exfalso; omega) (fun h => by exact Decidable.of_not_not ‹_›)
   ·refine CW.skip <| SR <| V (fA underlying47 1 rfl sizeOf45 e2_12) <| V (run_ld underlying45 rfl rfl (hH12.cell (i := 1) rfl rfl)) <| mI rfl <| V (run_indexAddrS (hs.facs.sl.hp hH12) underlying45 sizeOf44 rfl rfl (by omega)) <| V (run_ldE (dv := fac0) facL_len (hs.facs.sl.hp hH12) underlying44 rfl rfl rfl (by omega)) <| mU rfl <| RL.callP rfl hH12 (c_shape_word _ _  _ ((hs.at (by omega) (by omega)).mono hH12.kw) (hT.hp hH12)) (run_call2 call33 rfl rfl) <| fun w19 hH20 => V (run_not rfl) <| RL.nil <| CW.cond rfl (fun h23 => ?_) (fun h23 => ?_)
    ·refine SR <| va (v := B false) rfl <| RL.nil <| CW.ret <| outP1 Tryd.results21 (congrArg B ?_) hH20.below
     exact (fits_no2 h0 ‹_› (by omega) (by rw [sh_get]; exact nt ‹_›)).symm
    ·refine CW.skip <| CW.region <| V (run_add e11_12 rfl (by omega)) <| mI rfl <| RL.nil <| ?_
     refine ⟨k + 1, ?_, fr12.u4.u4.u4.u4.u4, hH20, (congrArg I (by rfl)), ?_, ?_, ?_⟩
     ·((try dsimp only); omega)
     ·omega
     ·omega
     ·exact hf.next (fun h => by rw [sh_get]; exact nf ‹_›) (fun h => by exfalso; omega)
  ·refine CW.exit (id := 0) rfl <| SR <| va (v := B true) rfl <| RL.nil <| CW.ret <| outP1 Tryd.results21 (congrArg B ?_) hH12.below
   exact (fits_yes hr ‹_› hf).symm
theorem c_shape_Leq (a b : El) (w : World) : Calls Tryd.prog 24 #[.agg (elC a), .agg (elC b)] w (Pure (B (leqE a b)) w) := by
 refine enter Tryd.func24 rfl Tryd.ntmps24 rfl <| have hH := Hp.start w; SR <| RL.new rfl hH (f := fun b => (.pointer (some ⟨b, 0, none⟩))) (run_box (v := .agg _) rfl) <| fun b3 w1 hH2 => RL.new rfl hH2 (f := fun b => (.pointer (some ⟨b, 0, none⟩))) (run_box (v := .agg _) rfl) <| fun b6 w4 hH5 => va (v := B false) rfl <| RL.nil <| CW.seq <| SR <| vm (v := I 0) rfl <| RL.nil <| CW.block <| CW.loop (G := Int) (fun k s' w' => (Fr (rg 4 14 []) _ s') ∧ (Hp w w' _) ∧ (s' 6 = I k) ∧ (0 ≤ k) ∧ (k ≤ 8) ∧ (∀ j : Int, 0 ≤ j → j < k → subB (a j.toNat) (b j.toNat) = true)) (fun k => (8 - k).toNat) (0) ⟨Fr.refl _ _, hH5, rfl, (by omega), (by omega), fun j u v => absurd v (by omega)⟩ <| ?_
 rintro k sg7 w7 ⟨fr7, hH7, e6_7, h0, hk, hf⟩
 have e2_7 := fr7.pp 2 rfl rfl
 have e3_7 := fr7.pp 3 rfl rfl
 refine SR <| V (run_lss e6_7 rfl) <| RL.nil <| CW.seq <| CW.condP rfl (fun h9 => ?_) (fun h9 => ?_)
 ·refine CW.skip <| CW.seq <| CW.block <| SR <| vm e6_7 <| aI rfl <| RL.nil <| CW.seq <| CW.regionD (by kernel_rfl) hH7 <| fun w10 hH11 => have zh11 := hH11.sub sR; AQ 0 rfl zh11 (mV (I _) rfl) <| AQ 1 rfl zh11 (run_indexAddrA underlying25 sizeOf23 e2_7 rfl (by omega)) <| AT 2 rfl zh11 (fun w hS => run_ld underlying23 rfl rfl (hS.cell (i := 1) rfl (elC_at _ (by omega)))) <| AQ 3 rfl zh11 (mV (I _) rfl) <| AQ 4 rfl zh11 (run_indexAddrA underlying25 sizeOf23 e3_7 rfl (by omega)) <| AT 5 rfl zh11 (fun w hS => run_ld underlying23 rfl rfl (hS.cell (i := 0) rfl (elC_at _ (by omega)))) <| A1 6 <| AO.callP rfl gnone rfl hH11 sR (c_mask_Sub _ _  _) (run_call2 call35 rfl rfl) <| fun w12 hH13 => AQ 7 rfl (hH13.sub sR) (run_not rfl) <| AD <| CW.cond rfl (fun h16 => ?_) (fun h16 => ?_)
  ·refine SR <| va (v := B false) rfl <| RL.nil <| CW.ret <| outP1 Tryd.results24 (congrArg B ?_) hH13.below
   exact (leq_no h0 ‹_› (nt ‹_›)).symm
  ·refine CW.skip <| CW.region <| V (run_add e6_7 rfl (by omega)) <| mI rfl <| RL.nil <| ?_
   refine ⟨k + 1, ?_, fr7.u4.u4.u4.u1, hH13, (congrArg I (by rfl)), ?_, ?_, ?_⟩
   ·((try dsimp only); omega)
   ·omega
   ·omega
   ·exact fun j u v => if e : j = k then e ▸ nf ‹_› else hf j u (by omega)
 ·refine CW.exit (id := 0) rfl <| SR <| va (v := B true) rfl <| RL.nil <| CW.ret <| outP1 Tryd.results24 (congrArg B ?_) hH7.below
  exact (leq_yes ‹_› hf).symm
theorem c_shape_each (s : Shp) (fi : FuncId) (gg : Fc → BitVec 64) (w : World) (hs : ShpV (Kw w) s) (hf : ∀ args w, (callFunc fi args).run Tryd.prog w = .ok (.enter fi args) w) (go : ∀ f w', FacV (Kw w') f → Tab w' → Calls Tryd.prog fi #[.agg (facC f)] w' (Pure (U (gg f.fc)) w')) (hT : Tab w) : Calls Tryd.prog 36 #[.agg (shpC s), .func (.func fi) #[] #[]] w (Pure (.agg (elC (eachS s.sh gg))) w) := by
 have hsl := sh_len s
 have hm := hs.facs.sl.small
 unfold maxLen at hm
 refine enter Tryd.func36 rfl Tryd.ntmps36 rfl <| have hH := Hp.start w; SR <| RL.new rfl hH (f := fun b => (.pointer (some ⟨b, 0, none⟩))) (run_box (v := .agg _) rfl) <| fun b3 w1 hH2 => RL.new rfl hH2 (f := fun b => (.pointer (some ⟨b, 0, none⟩))) (run_alloc zero_el) <| fun b6 w4 hH5 => RL.nil <| SR <| RL.new rfl hH5 (f := fun b => (.pointer (some ⟨b, 0, none⟩))) (run_alloc zero_el) <| fun b9 w7 hH8 => RL.nil <| CW.seq <| SR <| V (run_ldA (cs := [B _, _]) underlying47 rfl rfl rfl (rangeAt_cells (hH8.blk (i := 2) rfl))) <| RL.callP rfl hH8 (c_shape_Right _  _ (hs.mono hH8.kw) (hT.hp hH8)) (run_call1 call32 rfl) <| fun w10 hH11 => RL.nil <| CW.cond rfl (fun h13 => ?_) (fun h13 => ?_)
 ·refine SR <| V (fA underlying47 1 rfl sizeOf45 rfl) <| V (run_ld underlying45 rfl rfl (hH11.cell (i := 2) rfl rfl)) <| V (run_lenSl (hs.facs.sl.hp hH11) rfl underlying45 rfl) <| vm (v := I 0) rfl <| RL.nil <| CW.block <| have hln := (sh_spec ‹shR s.sh = true›).1; CW.loop (G := Int × El) (fun ⟨k, e1⟩ s' w' => (Fr (6 :: 7 :: (rg 13 11 [])) _ s') ∧ (Hp w w' (.blk b9 (.cells (elC e1) 25 (0, 0)) :: _)) ∧ (s' 13 = I k) ∧ (0 ≤ k) ∧ (k ≤ s.facs.length) ∧ (e1 = mixE (eachS s.sh gg) el0 k)) (fun ⟨k, e1⟩ => (s.facs.length - k).toNat) ((0, el0)) ⟨Fr.refl _ _, hH11, rfl, (by omega), (by omega), (mix_zero _ _).symm⟩ <| ?_
  rintro ⟨k, e1⟩ sg14 w14 ⟨fr14, hH14, e13_14, h0, hk, hr⟩
  have e1_14 := fr14.vv 1 (a := .func _ _ _) rfl rfl
  have e4_14 := fr14.pp 4 rfl rfl
  have e5_14 := fr14.pp 5 rfl rfl
  have e11_14 := (fr14 11 rfl).trans (by conv => lhs; whnf)
  have e12_14 := fr14.ii 12 rfl rfl
  refine SR <| V (run_lss e13_14 e12_14) <| RL.nil <| CW.seq <| CW.condP rfl (fun h16 => ?_) (fun h16 => ?_)
  ·refine CW.skip <| CW.seq <| CW.block <| SR <| vm e13_14 <| V (run_indexAddrS (hs.facs.sl.hp hH14) underlying45 sizeOf44 e11_14 e13_14 (by omega)) <| V (run_ldE (dv := fac0) facL_len (hs.facs.sl.hp hH14) underlying44 rfl rfl rfl (by omega)) <| RL.new rfl hH14 (f := fun b => (.pointer (some ⟨b, 0, none⟩))) (run_alloc zero_fac) <| fun b19 w17 hH18 => aI rfl <| RL.set hH18 (i := 0) rfl (run_stFac (hs.at (by omega) (by omega)) rfl rfl rfl (hH18.blk (i := 0) rfl)) <| fun w20 hH21 => ?_
   simp only [z2] at hH21
   refine RL.nil <| CW.region <| mI rfl <| vm e1_14 <| V (run_ldFac underlying44 rfl rfl rfl (hH21.blk (i := 0) rfl)) <| RL.callP rfl hH21 (go _ _ ((hs.at (by omega) (by omega)).mono hH21.kw) (hT.hp hH21)) (run_callC1 hf (cs := []) rfl rfl) <| fun w22 hH23 => V (run_indexAddrA underlying25 sizeOf23 e5_14 rfl (by omega)) <| RL.set hH23 (i := 1) rfl (run_st rfl rfl (v := U _) rfl rfl rfl (hH23.blk (i := 1) rfl) (by rw [elC_size]; omega)) <| fun w24 hH25 => ?_
   simp only [z2] at hH25
   rw [elC_put] at hH25
   refine RL.nil <| CW.region <| V (run_add e13_14 rfl (by omega)) <| mI rfl <| RL.nil <| ?_
   refine ⟨(k + 1, _), ?_, fr14.u4.u4.u4.u1, (hH25.sub (sQ sR)), (congrArg I (by rfl)), ?_, ?_, ?_⟩
   ·((try dsimp only); omega)
   ·omega
   ·omega
   ·(have hp := each_put ‹shR s.sh = true› hr h0 (show k < s.sh.facs.length by omega); rw [sh_get] at hp; exact hp)
  ·refine CW.exit (id := 0) rfl <| SR <| V (run_ldEl underlying25 rfl rfl e5_14 (hH14.blk (i := 0) rfl)) <| RL.set hH14 (i := 1) rfl (run_stEl rfl e4_14 rfl (hH14.blk (i := 1) rfl)) <| fun w26 hH27 => ?_
   simp only [z2] at hH27
   refine RL.nil <| CW.ret <| outCg Tryd.results36 e4_14 hH27 (i := 1) rfl underlying25 rfl (by rw [elC_size]; rfl) ⟨?_, hH27.below⟩
   exact congrArg Value.agg (elC_congr (by rw [hr]; exact each_all (by omega)))
 ·refine CW.skip <| SR <| V (run_ldEl underlying25 rfl rfl rfl (hH11.blk (i := 0) rfl)) <| RL.set hH11 (i := 1) rfl (run_stEl rfl rfl rfl (hH11.blk (i := 1) rfl)) <| fun w28 hH29 => ?_
  simp only [z2] at hH29
  refine RL.nil <| CW.ret <| outCg Tryd.results36 rfl hH29 (i := 1) rfl underlying25 rfl (by rw [elC_size]; rfl) ⟨?_, hH29.below⟩
  exact congrArg Value.agg (elC_congr (each_no ‹_›))
theorem c_shape_least (f : Fac) (w : World) (hf : FacV (Kw w) f) (hT : Tab w) : Calls Tryd.prog 37 #[.agg (facC f)] w (Pure (U (leastF f.fc)) w) := by
 refine enter Tryd.func37 rfl Tryd.ntmps37 rfl <| have hH := Hp.start w; SR <| RL.new rfl hH (f := fun b => (.pointer (some ⟨b, 0, none⟩))) (run_box (v := .agg _) rfl) <| fun b3 w1 hH2 => va (v := U 0#64) rfl <| RL.nil <| CW.seq <| SR <| V (fA underlying44 0 rfl sizeOf3 rfl) <| V (run_ld underlying3 rfl rfl (hH2.cell (i := 0) rfl (v := I _) rfl)) <| V (run_neq rfl rfl) <| RL.nil <| CW.condP rfl (fun h5 => ?_) (fun h5 => ?_)
 ·refine SR <| va (v := U 0#64) rfl <| RL.nil <| CW.ret <| outP1 Tryd.results37 (congrArg U ?_) hH2.below
  exact (if_pos (show f.fc.kind ≠ 4 from ‹_›)).symm
 ·refine CW.skip <| SR <| V (fA underlying44 2 rfl sizeOf42 rfl) <| V (run_ldBR underlying42 rfl rfl rfl (hH2.blk (i := 0) rfl)) <| RL.callP rfl hH2 (c_hasse_Bottom _  _ (hT.hp hH2)) (run_call1 call50 rfl) <| fun w6 hH7 => ?_
  refine V (run_move (by conv => lhs; whnf)) ?_
  refine V (run_extract rfl (v := I _) rfl) <| V (run_extract rfl (v := B _) rfl) <| aI rfl <| aB rfl <| RL.nil <| SR <| V (fA underlying44 2 rfl sizeOf42 rfl) <| V (run_ldBR underlying42 rfl rfl rfl (hH7.blk (i := 0) rfl)) <| mI rfl <| RL.callP rfl hH7 (c_hasse_Word _ _  _ (hT.hp hH7)) (run_call2 call51 rfl rfl) <| fun w9 hH10 => aU rfl <| RL.nil <| CW.ret <| outP1 Tryd.results37 (congrArg U ?_) hH10.below
  exact (if_neg (show ¬ f.fc.kind ≠ 4 from ‹_›)).symm
theorem c_shape_Bottom (s : Shp) (w : World) (hs : ShpV (Kw w) s) (hT : Tab w) : Calls Tryd.prog 28 #[.agg (shpC s)] w (Pure (.agg (elC (eachS s.sh leastF))) w) := by
 refine enter Tryd.func28 rfl Tryd.ntmps28 rfl <| have hH := Hp.start w; SR <| RL.new rfl hH (f := fun b => (.pointer (some ⟨b, 0, none⟩))) (run_box (v := .agg _) rfl) <| fun b3 w1 hH2 => RL.new rfl hH2 (f := fun b => (.pointer (some ⟨b, 0, none⟩))) (run_alloc zero_el) <| fun b6 w4 hH5 => RL.nil <| SR <| V (run_ldA (cs := [B _, _]) underlying47 rfl rfl rfl (rangeAt_cells (hH5.blk (i := 1) rfl))) <| RL.callP rfl hH5 (c_shape_each s 37 leastF _ (hs.mono hH5.kw) call37 (fun f w h ht => c_shape_least f w h ht) (hT.hp hH5)) (run_call2 call36 rfl rfl) <| fun w7 hH8 => RL.set hH8 (i := 0) rfl (run_stEl rfl rfl rfl (hH8.blk (i := 0) rfl)) <| fun w9 hH10 => ?_
 simp only [z2] at hH10
 refine RL.nil <| CW.ret <| outCg Tryd.results28 rfl hH10 (i := 0) rfl underlying25 rfl (by rw [elC_size]; rfl) ⟨?_, hH10.below⟩
 rfl
theorem c_spell_kind (f : Fac) (w : World) : Calls Tryd.prog 58 #[.agg (facC f)] w (Pure (I (kindN f.fc)) w) := by
 refine enter Tryd.func58 rfl Tryd.ntmps58 rfl <| have hH := Hp.start w; SR <| RL.new rfl hH (f := fun b => (.pointer (some ⟨b, 0, none⟩))) (run_box (v := .agg _) rfl) <| fun b3 w1 hH2 => va (v := I 0) rfl <| RL.nil <| CW.seq <| SR <| V (fA underlying44 0 rfl sizeOf3 rfl) <| V (run_ld underlying3 rfl rfl (hH2.cell (i := 0) rfl (v := I _) rfl)) <| RL.nil <| CW.block <| SR <| V (run_eql rfl rfl) <| aB rfl <| RL.nil <| CW.condP rfl (fun h5 => ?_) (fun h5 => ?_)
 ·refine SR <| va (v := I 3) rfl <| RL.nil <| CW.ret <| outP1 Tryd.results58 (congrArg I ?_) hH2.below
  (simp [kindN, Fac.fc, *])
 ·refine SR <| V (run_eql rfl rfl) <| aB rfl <| RL.nil <| CW.condP rfl (fun h7 => ?_) (fun h7 => ?_)
  ·refine SR <| va (v := I 5) rfl <| RL.nil <| CW.ret <| outP1 Tryd.results58 (congrArg I ?_) hH2.below
   (simp [kindN, Fac.fc, *])
  ·refine CW.skip <| SR <| va (v := I 2) rfl <| RL.nil <| CW.ret <| outP1 Tryd.results58 (congrArg I ?_) hH2.below
   (simp [kindN, Fac.fc, *])
theorem c_spell_constant_1_1 (W0 : World) (b c : Nat) (v : Value) (l : List Int) (f : Fac) (i : Int) (hi : 0 ≤ i ∧ i < f.names.length) (w : World) (hH : Hp W0 w [.row v 98 2 l.length ((l.map (wdN f.names)).flatMap wdL), .blk b (.cells #[v] 74 (0, 0))]) (hlen : l.length ≤ 64) (hf : FacV (Kw W0) f) (hc : W0.heap[c]? = some (.cells (facC f) 44 (0, 0))) : Calls Tryd.prog 57 #[I i, .pointer (some ⟨b, 0, none⟩), .pointer (some ⟨c, 0, none⟩)] w (Ret fun u w' => u = B true ∧ ∃ v', Hp W0 w' [.row v' 98 2 (l ++ [i]).length (((l ++ [i]).map (wdN f.names)).flatMap wdL), .blk b (.cells #[v'] 74 (0, 0))]) := by
 refine enter Tryd.func57 rfl Tryd.ntmps57 rfl <| SR <| va (v := B false) rfl <| RL.nil <| CW.seq <| CW.regionS (by kernel_rfl) hH (sQ (sQ sR)) <| fun w1 hH2 => have zh2 := hH2.sub (sQ (sQ sR)); AQ 1 rfl zh2 (fA underlying44 1 rfl sizeOf39 rfl) <| AT 2 rfl zh2 (fun w hS => run_ld underlying39 rfl rfl (hS.extCell hc rfl)) <| AQ 3 rfl zh2 (mV (I _) rfl) <| AT 4 rfl zh2 (fun w hS => run_indexAddrS (hf.names.sl.hp hS) underlying39 sizeOf9 rfl rfl (by omega)) <| AT 5 rfl zh2 (fun w hS => run_ld underlying9 rfl rfl ((hf.names.sl.hp hS).cell _ _ (txL_at (by omega)))) <| AQ 6 rfl zh2 (run_bld (vs := [(0, S _)]) rfl (built_wdLs _)) <| AN.two 0 7 (by kernel_rfl) ?_ ?_
 ·refine AO.read rfl gnone rfl hH2 (sQ (sQ sR)) (run_ld underlying74 rfl rfl (hH2.cell (i := 1) rfl rfl)) <| A1 7 <| AO.new rfl gnone rfl hH2 (sQ (sQ sR)) (f := fun b => .slice (some ⟨b, 0, none⟩) 1 1) (run_mkRecs wdL_len underlying74 rfl rfl rfl (l := [_]) rfl (by decide) (by decide) rfl) <| fun b7 w5 hH6 => A1 8 <| AO.app rfl gnone rfl hH6 (j := 1) rfl (fun _ => (sQ (sQ (sQ sR)))) (Hp.slFlat wdL_len hH6 (i := 0) (l := [_]) rfl (by simp [maxLen])) rfl rfl underlying74 rfl rfl (size := 2) (bytes := 24) rfl rfl rfl (by decide) (by simp [wdL, Value.oneCell']) (by simp only [List.length_cons, List.length_nil]; omega) (by simp only [maxLen, List.length_cons, List.length_nil]; omega) <| fun v10 w8 hH9 => ?_
  simp only [z2] at hH9
  refine A1 9 <| AO.set rfl gnone hH9 (j := 2) rfl (sQ (sQ (sQ sR))) (run_st rfl rfl (v := v10) rfl (row_cells (hH9.get (i := 1) rfl)).1 (row_cells (hH9.get (i := 1) rfl)).2 (hH9.blk (i := 2) rfl) (by simp)) <| fun w11 hH12 => ?_
  simp only [z2] at hH12
  refine AD <| SR <| va (v := B true) rfl <| RL.nil <| CW.ret <| out1 Tryd.results57 rfl ⟨rfl, (v10 : Value), Hp.conv hH12.tail (by simp [wdN])⟩
 ·refine AO.new rfl gnone rfl hH2 (sQ (sQ sR)) (f := fun b => .slice (some ⟨b, 0, none⟩) 1 1) (run_mkRecs wdL_len underlying74 rfl rfl rfl (l := [_]) rfl (by decide) (by decide) rfl) <| fun b15 w13 hH14 => A1 0 <| AO.read rfl gnone rfl hH14 (sQ (sQ (sQ sR))) (run_ld underlying74 rfl rfl (hH14.cell (i := 2) rfl rfl)) <| A1 8 <| AO.app rfl gnone rfl hH14 (j := 1) rfl (fun _ => (sQ (sQ (sQ sR)))) (Hp.slFlat wdL_len hH14 (i := 0) (l := [_]) rfl (by simp [maxLen])) rfl rfl underlying74 rfl rfl (size := 2) (bytes := 24) rfl rfl rfl (by decide) (by simp [wdL, Value.oneCell']) (by simp only [List.length_cons, List.length_nil]; omega) (by simp only [maxLen, List.length_cons, List.length_nil]; omega) <| fun v20 w18 hH19 => ?_
  simp only [z2] at hH19
  refine A1 9 <| AO.set rfl gnone hH19 (j := 2) rfl (sQ (sQ (sQ sR))) (run_st rfl rfl (v := v20) rfl (row_cells (hH19.get (i := 1) rfl)).1 (row_cells (hH19.get (i := 1) rfl)).2 (hH19.blk (i := 2) rfl) (by simp)) <| fun w21 hH22 => ?_
  simp only [z2] at hH22
  refine AD <| SR <| va (v := B true) rfl <| RL.nil <| CW.ret <| out1 Tryd.results57 rfl ⟨rfl, (v20 : Value), Hp.conv hH22.tail (by simp [wdN])⟩
theorem c_spell_constant_1 (K : Vu) (c : Nat) (f : Fac) (s : BitVec 64) (hw : subB s (below f.names.length) = true) (w : World) (hK : Le K (Kw w)) (hf : FacV (Kw w) f) (hc : w.heap[c]? = some (.cells (facC f) 44 (0, 0))) (hT : Tab w) : Calls Tryd.prog 55 #[U s, .pointer (some ⟨c, 0, none⟩)] w (PureF K (fun K' u => SlV K' u 2 (namesOf f.names s).length ((namesOf f.names s).flatMap wdL)) w) := by
 refine enter Tryd.func55 rfl Tryd.ntmps55 rfl <| have hH := Hp.start w; SR <| va (v := .slice none 0 0) rfl <| RL.nil <| SR <| RL.new rfl hH (f := fun b => (.pointer (some ⟨b, 0, none⟩))) (run_alloc Tryd.zeroValue74) <| fun b3 w1 hH2 => have hH4 := hH2.nilRow 98 2; RL.nil <| SR <| mU rfl <| ?_
 refine V (run_mkF2 (by conv => lhs; whnf) (by conv => lhs; whnf)) ?_
 refine RL.call rfl (run_call2 call56 (v1 := U s) rfl (v2 := .func (.func 57) #[] #[.pointer (some ⟨b3, 0, none⟩), .pointer (some ⟨c, 0, none⟩)]) rfl) (c_mask_Each 57 _ (fun l w' => ∃ v, Hp w w' [.row v 98 2 l.length ((l.map (wdN f.names)).flatMap wdL), .blk b3 (.cells #[v] 74 (0, 0))]) (fun _ _ => False) s _ call57 (fun l w' w'' h hb => h.imp fun v h => h.call hb) (fun l w' h => h.elim fun v h => hT.hp h) (fun l i r w' he h => h.elim fun v h => by
   have hl64 : l.length ≤ 64 := by have := lst_len s; rw [he] at this; simp at this; omega
   have hi : 0 ≤ i ∧ i < f.names.length := lst_in hw (by rw [he]; simp)
   refine Ret.calls (c_spell_constant_1_1 w b3 c v l f i hi w' h hl64 hf hc) <| fun u w2 hq => ⟨true, hq.1, fun _ => hq.2, fun h => by cases h⟩) ⟨.slice none 0 0, hH4⟩) ?_
 rintro u w5 ⟨rfl, hor⟩
 obtain ⟨v7, hH6⟩ := hor.resolve_right (fun ⟨_, _, _, _, h⟩ => h)
 refine RL.nil <| SR <| V (run_ld underlying74 rfl rfl (hH6.cell (i := 1) rfl rfl)) <| ?_
 refine V (run_assign (by conv => lhs; whnf)) ?_
 refine RL.nil <| CW.ret <| ?_
 obtain ⟨Z8, hz9, hv10, -⟩ := hH6.frz (K)
 have hH11 : Hp _ w5 (_ :: Z8) := hz9.zin0 (L := [_])
 refine out1 Tryd.results55 rfl ⟨Z8, (hH11.sub (sQ sR)), ?_⟩
 rw [namesOf_def, List.length_map]; exact hv10
theorem c_spell_constant (K : Vu) (f : Fac) (s : BitVec 64) (hR : factorR f.fc = true) (hw : wordF f.fc s = true) (w : World) (hK : Le K (Kw w)) (hf : FacV K f) (hT : Tab w) : Calls Tryd.prog 42 #[.agg (facC f), U s] w (PureF K (fun K' u => ∃ n : NodeR, u = .agg (nodeL n).toArray ∧ n.nd = constF f.fc s ∧ NodeV K' n) w) := by
 have hm1 := hf.names.small
 unfold maxLen at hm1
 have hno := (named_spec (fac_named hR)).1
 refine enter Tryd.func42 rfl Tryd.ntmps42 rfl <| have hH := Hp.start w; SR <| RL.new rfl hH (f := fun b => (.pointer (some ⟨b, 0, none⟩))) (run_box (v := .agg _) rfl) <| fun b3 w1 hH2 => RL.new rfl hH2 (f := fun b => (.pointer (some ⟨b, 0, none⟩))) (run_alloc Tryd.zeroValue77) <| fun b6 w4 hH5 => RL.nil <| SR <| ?_
 refine V (run_mkF1 (by conv => lhs; whnf)) ?_
 refine va (v := .func _ _ _) rfl <| RL.nil <| SR <| V (run_ldFac underlying44 rfl rfl rfl (hH5.blk (i := 1) rfl)) <| RL.callP rfl hH5 (c_spell_kind _  _) (run_call1 call58 rfl) <| fun w7 hH8 => V (run_bld (vs := [(0, I (kindN f.fc))]) rfl (built_nodeK (kindN f.fc))) <| RL.new rfl hH8 (f := fun b => (.pointer (some ⟨b, 0, none⟩))) (run_alloc Tryd.zeroValue77) <| fun b11 w9 hH10 => RL.set hH10 (i := 0) rfl (run_stW (c' := (nodeL (kindR (kindN f.fc) tx0 (.slice none 0 0) [])).toArray) rfl rfl rfl (nodeL_one (kindR_v (SlV.nil (Kw w) _))) (hH10.blk (i := 0) rfl) rfl) <| fun w12 hH13 => ?_
 simp only [z2] at hH13
 have hH14 := hH13.nilRow 77 5
 refine RL.nil <| CW.seq <| SR <| V (fA underlying44 0 rfl sizeOf3 rfl) <| V (run_ld underlying3 rfl rfl (hH14.cell (i := 3) rfl (v := I _) rfl)) <| RL.nil <| CW.block <| SR <| V (run_eql rfl rfl) <| aB rfl <| RL.nil <| CW.condP rfl (fun h16 => ?_) (fun h16 => ?_)
 ·refine CW.region <| vm (v := .func _ _ _) rfl <| mU rfl <| RL.callF rfl hH14 (c_spell_constant_1 K b3 f s (sub_2 (f := f.fc) ‹f.kind = 2› hw) _ (hK.trans hH14.kw) (hf.mono (hK.trans hH14.kw)) (hH14.blk (i := 3) rfl) (hT.hp hH14)) (run_callC1 call55 (cs := [.pointer (some ⟨b3, 0, none⟩)]) rfl rfl) <| fun v19 w20 Z22 hH21 hp23 => have hH24 : Hp _ w20 (_ :: _ :: _ :: _ :: Z22) := hH21.zin0 (L := [_, _, _, _]); have hv25 := hp23; V (fA underlying77 3 rfl sizeOf74 rfl) <| RL.set hH24 (i := 1) rfl (run_st rfl rfl (v := v19) rfl (one_slv hv25).2 (one_slv hv25).1 (hH24.blk (i := 1) rfl) (by show 3 < 5; decide)) <| fun w26 hH27 => ?_
  simp only [z2] at hH27
  refine RL.nil <| SR <| have hN28 : NodeV (Kz K Z22) ((kindR (kindN f.fc) tx0 v19 (namesOf f.names s))) := kindR_v hv25; V (run_ldA (cs := nodeL ((kindR (kindN f.fc) tx0 v19 (namesOf f.names s)))) underlying77 rfl rfl rfl (rangeAt_cells (hH27.blk (i := 1) rfl))) <| RL.set hH27 (i := 2) rfl (run_stW (c' := (nodeL ((kindR (kindN f.fc) tx0 v19 (namesOf f.names s)))).toArray) rfl rfl rfl (nodeL_one hN28) (hH27.blk (i := 2) rfl) rfl) <| fun w29 hH30 => ?_
  simp only [z2] at hH30
  refine RL.nil <| CW.ret <| outCg Tryd.results42 rfl hH30 (i := 2) rfl underlying77 rfl rfl ⟨Z22, (hH30.sub (sQ (sQ (sQ (sQ sR))))), (kindR (kindN f.fc) tx0 v19 (namesOf f.names s)), rfl, ?_, hN28⟩
  exact nd_2 ‹_›
 ·refine SR <| V (run_eql rfl rfl) <| aB rfl <| RL.nil <| CW.condP rfl (fun h32 => ?_) (fun h32 => ?_)
  ·refine SR <| V (fA underlying44 2 rfl sizeOf42 rfl) <| V (run_ldBR underlying42 rfl rfl rfl (hH14.blk (i := 3) rfl)) <| mU rfl <| RL.callP rfl hH14 (c_grid_Owners _ _  _) (run_call2 call60 rfl rfl) <| fun w33 hH34 => RL.callR rfl hH34 (c_mask_List _  _ (hT.hp hH34)) (run_call1 call59 rfl) <| fun v37 w35 hH36 => V (run_lenSl (hH36.sl (i := 0) rfl) rfl underlying104 rfl) <| vm (v := I 0) rfl <| RL.nil <| CW.block <| CW.loop (G := Int × Value × (List NodeR) × (List Ent)) (fun ⟨k, kv, gs, Z⟩ s' w' => (Fr (8 :: (rg 47 23 [])) _ s') ∧ (Hp w w' (_ :: .row kv 77 5 (gs.length) (gs.flatMap nodeL) :: .blk b11 (.cells ((nodeL (kidsR (kindN f.fc) kv gs)).toArray) 77 (0, 0)) :: _ :: _ :: Z)) ∧ (s' 47 = I k) ∧ (0 ≤ k) ∧ (k ≤ (lst (ownersG f.rel s)).length) ∧ (gs.map NodeR.nd = rulesTo f.fc s k) ∧ (NodesV (Kz K Z) gs) ∧ ((gs.length : Int) = k)) (fun ⟨k, kv, gs, Z⟩ => ((lst (ownersG f.rel s)).length - k).toNat) ((0, (.slice none 0 0 : Value), [], [])) ⟨Fr.refl _ _, hH36, rfl, (by omega), (by omega), rfl, NodesV.nil _, rfl⟩ <| ?_
   rintro ⟨k, kv, gs, Z⟩ sg38 w38 ⟨fr38, hH38, e47_38, h0, hk, hm, hF, hb⟩
   have e1_38 := fr38.uu 1 rfl rfl
   have e2_38 := fr38.pp 2 rfl rfl
   have e4_38 := fr38.pp 4 rfl rfl
   have e5_38 := fr38.vv 5 (a := .func _ _ _) rfl rfl
   have e6_38 := fr38.pp 6 rfl rfl
   have e45_38 := (fr38 45 rfl).trans (by conv => lhs; whnf)
   have e46_38 := fr38.ii 46 rfl rfl
   have hl64 := lst_len (ownersG f.rel s)
   refine SR <| V (run_lss e47_38 e46_38) <| RL.nil <| CW.seq <| CW.condP rfl (fun h40 => ?_) (fun h40 => ?_)
   ·refine CW.skip <| CW.seq <| CW.block <| SR <| V (run_indexAddrS (hH38.sl (i := 0) rfl) underlying104 sizeOf3 e45_38 e47_38 (by omega)) <| V (run_ld underlying3 rfl rfl ((hH38.sl (i := 0) rfl).cell _ _ (map_at (by omega)))) <| aI rfl <| RL.nil <| CW.regionS (by kernel_rfl) hH38 (sP (sQ (sQ sR))) <| fun w41 hH42 => have zh42 := hH42.sub (sP (sQ (sQ sR))); AQ 0 rfl zh42 (fA underlying77 4 rfl sizeOf75 e6_38) <| AQ 2 rfl zh42 (fA underlying44 1 rfl sizeOf39 e2_38) <| AT 3 rfl zh42 (fun w hS => run_ld underlying39 rfl rfl (hS.cell (i := 2) rfl rfl)) <| AQ 4 rfl zh42 (mV (I _) rfl) <| AT 5 rfl zh42 (fun w hS => run_indexAddrS ((hf.mono hK).names.sl.hp hS) underlying39 sizeOf9 rfl rfl (by exact own_at (f := f.fc) hR ‹f.kind = 3› s h0 ‹k < _›)) <| AT 6 rfl zh42 (fun w hS => run_ld underlying9 rfl rfl (((hf.mono hK).names.sl.hp hS).cell _ _ (txL_at (by exact own_at (f := f.fc) hR ‹f.kind = 3› s h0 ‹k < _›)))) <| AQ 7 rfl zh42 (run_move e5_38) <| AQ 8 rfl zh42 (fA underlying44 2 rfl sizeOf42 e2_38) <| AT 9 rfl zh42 (fun w hS => run_ldBR underlying42 rfl rfl rfl (hS.blk (i := 2) rfl)) <| AQ 10 rfl zh42 (run_move e1_38) <| AQ 11 rfl zh42 (mV (I _) rfl) <| AN.two 1 12 (by kernel_rfl) ?_ ?_
    ·refine AO.read rfl gnone rfl hH42 (sP (sQ (sQ sR))) (run_ld underlying75 rfl rfl (hH42.cell (i := 2) rfl rfl)) <| A1 12 <| AO.callP rfl gnone rfl hH42 (sP (sQ (sQ sR))) (c_grid_Readers _ _ _  _) (run_call3 call61 rfl rfl rfl) <| fun w45 hH46 => A1 13 <| AO.callF rfl gnone rfl hH46 (sP (sQ (sQ sR))) (c_spell_constant_1 K b3 f (readersG f.rel s ((lst (ownersG f.rel s)).getD k.toNat 0)) (sub_r (f := f.fc) hR ‹f.kind = 3› _ _) _ (hK.trans hH46.kw) (hf.mono (hK.trans hH46.kw)) (hH46.blk (i := 4) rfl) (hT.hp hH46)) (run_callC1 call55 (cs := [.pointer (some ⟨b3, 0, none⟩)]) rfl rfl) <| fun v49 w50 Z52 hH51 hp53 => have hH54 : Hp _ w50 (_ :: _ :: _ :: _ :: _ :: (Z52 ++ Z)) := hH51.zin (L := [_, _, _, _, _]) (L' := Z); have hv55 := hp53; AQ 14 rfl (hH54.sub (sP (sQ (sQ (sP (sP (sA sR))))))) (run_bld (vs := [(0, I 6), (2, S (f.names.getD ((lst (ownersG f.rel s)).getD k.toNat 0).toNat tx0)), (3, v49)]) rfl (built_nodeTN (one_slv hv55).2 6 (f.names.getD ((lst (ownersG f.rel s)).getD k.toNat 0).toNat tx0) (namesOf f.names (readersG f.rel s ((lst (ownersG f.rel s)).getD k.toNat 0))))) <| A1 15 <| AO.new rfl gnone rfl hH54 (sP (sQ (sQ (sP (sP (sA sR)))))) (f := fun b => .slice (some ⟨b, 0, none⟩) 1 1) (run_mkRecs nodeL_len underlying75 rfl rfl rfl (l := [(kindR 6 (f.names.getD ((lst (ownersG f.rel s)).getD k.toNat 0).toNat tx0) v49 (namesOf f.names (readersG f.rel s ((lst (ownersG f.rel s)).getD k.toNat 0))))]) rfl (by decide) (by decide) rfl) <| fun b58 w56 hH57 => A1 16 <| AO.app rfl gnone rfl hH57 (j := 2) rfl (fun _ => (sQ (sP (sQ (sQ (sP (sP (sA sR)))))))) (Hp.slFlat nodeL_len hH57 (i := 0) (l := [(kindR 6 (f.names.getD ((lst (ownersG f.rel s)).getD k.toNat 0).toNat tx0) v49 (namesOf f.names (readersG f.rel s ((lst (ownersG f.rel s)).getD k.toNat 0))))]) rfl (by simp [maxLen])) rfl rfl underlying75 rfl rfl (size := 5) (bytes := 80) rfl rfl rfl (by decide) (node1_one (kindR_v hv55)) (by simp only [List.length_cons, List.length_nil]; omega) (by simp only [maxLen, List.length_cons, List.length_nil]; omega) <| fun v61 w59 hH60 => ?_
     simp only [z2] at hH60
     refine AQ 17 rfl (hH60.sub (sQ (sP (sQ (sQ (sP (sP (sA sR)))))))) (fA underlying77 4 rfl sizeOf75 e6_38) <| A1 18 <| AO.set rfl gnone hH60 (j := 3) rfl (sQ (sP (sQ (sQ (sP (sP (sA sR))))))) (run_st rfl rfl (v := v61) rfl (row_cells (hH60.get (i := 2) rfl)).1 (row_cells (hH60.get (i := 2) rfl)).2 (hH60.blk (i := 3) rfl) (by show 4 < 5; decide)) <| fun w64 hH65 => ?_
     simp only [z2] at hH65
     refine AD <| CW.region <| V (run_add e47_38 rfl (by omega)) <| mI rfl <| RL.nil <| ?_
     refine ⟨(k + 1, v61, (gs ++ [(kindR 6 (f.names.getD ((lst (ownersG f.rel s)).getD k.toNat 0).toNat tx0) v49 (namesOf f.names (readersG f.rel s ((lst (ownersG f.rel s)).getD k.toNat 0))))]), (Z52 ++ Z)), ?_, fr38.u4.u4.u4.u4.u4.u4, (Hp.conv (hH65.sub (sQ sR)) (by simp [nodeL, kidsR, kindR, NodeR.kind, NodeR.place, NodeR.text, NodeR.nv, NodeR.kv]; done)), (congrArg I (by rfl)), ?_, ?_, ?_, ?_, ?_⟩
     ·((try dsimp only); omega)
     ·omega
     ·omega
     ·rw [rules_next (f := f.fc) h0 ‹k < _›, List.map_append, hm]; exact congrArg (_ ++ [·]) (rule_nd (f := f.fc) (w := s) (o := ((lst (ownersG f.rel s)).getD k.toNat 0)))
     ·exact (hF.mono (Le.zz fun y hy => List.mem_append_right _ hy)).snoc (NodeV.mono (Le.zz fun y hy => List.mem_append_left _ hy) (kindR_v hv55))
     ·simp only [List.length_append, List.length_singleton]; omega
    ·refine AO.callP rfl gnone rfl hH42 (sP (sQ (sQ sR))) (c_grid_Readers _ _ _  _) (run_call3 call61 rfl rfl rfl) <| fun w66 hH67 => AN.two 1 13 (by kernel_rfl) ?_ ?_
     ·refine AO.read rfl gnone rfl hH67 (sP (sQ (sQ sR))) (run_ld underlying75 rfl rfl (hH67.cell (i := 2) rfl rfl)) <| A1 13 <| AO.callF rfl gnone rfl hH67 (sP (sQ (sQ sR))) (c_spell_constant_1 K b3 f (readersG f.rel s ((lst (ownersG f.rel s)).getD k.toNat 0)) (sub_r (f := f.fc) hR ‹f.kind = 3› _ _) _ (hK.trans hH67.kw) (hf.mono (hK.trans hH67.kw)) (hH67.blk (i := 4) rfl) (hT.hp hH67)) (run_callC1 call55 (cs := [.pointer (some ⟨b3, 0, none⟩)]) rfl rfl) <| fun v72 w73 Z75 hH74 hp76 => have hH77 : Hp _ w73 (_ :: _ :: _ :: _ :: _ :: (Z75 ++ Z)) := hH74.zin (L := [_, _, _, _, _]) (L' := Z); have hv78 := hp76; AQ 14 rfl (hH77.sub (sP (sQ (sQ (sP (sP (sA sR))))))) (run_bld (vs := [(0, I 6), (2, S (f.names.getD ((lst (ownersG f.rel s)).getD k.toNat 0).toNat tx0)), (3, v72)]) rfl (built_nodeTN (one_slv hv78).2 6 (f.names.getD ((lst (ownersG f.rel s)).getD k.toNat 0).toNat tx0) (namesOf f.names (readersG f.rel s ((lst (ownersG f.rel s)).getD k.toNat 0))))) <| A1 15 <| AO.new rfl gnone rfl hH77 (sP (sQ (sQ (sP (sP (sA sR)))))) (f := fun b => .slice (some ⟨b, 0, none⟩) 1 1) (run_mkRecs nodeL_len underlying75 rfl rfl rfl (l := [(kindR 6 (f.names.getD ((lst (ownersG f.rel s)).getD k.toNat 0).toNat tx0) v72 (namesOf f.names (readersG f.rel s ((lst (ownersG f.rel s)).getD k.toNat 0))))]) rfl (by decide) (by decide) rfl) <| fun b81 w79 hH80 => A1 16 <| AO.app rfl gnone rfl hH80 (j := 2) rfl (fun _ => (sQ (sP (sQ (sQ (sP (sP (sA sR)))))))) (Hp.slFlat nodeL_len hH80 (i := 0) (l := [(kindR 6 (f.names.getD ((lst (ownersG f.rel s)).getD k.toNat 0).toNat tx0) v72 (namesOf f.names (readersG f.rel s ((lst (ownersG f.rel s)).getD k.toNat 0))))]) rfl (by simp [maxLen])) rfl rfl underlying75 rfl rfl (size := 5) (bytes := 80) rfl rfl rfl (by decide) (node1_one (kindR_v hv78)) (by simp only [List.length_cons, List.length_nil]; omega) (by simp only [maxLen, List.length_cons, List.length_nil]; omega) <| fun v84 w82 hH83 => ?_
      simp only [z2] at hH83
      refine AQ 17 rfl (hH83.sub (sQ (sP (sQ (sQ (sP (sP (sA sR)))))))) (fA underlying77 4 rfl sizeOf75 e6_38) <| A1 18 <| AO.set rfl gnone hH83 (j := 3) rfl (sQ (sP (sQ (sQ (sP (sP (sA sR))))))) (run_st rfl rfl (v := v84) rfl (row_cells (hH83.get (i := 2) rfl)).1 (row_cells (hH83.get (i := 2) rfl)).2 (hH83.blk (i := 3) rfl) (by show 4 < 5; decide)) <| fun w87 hH88 => ?_
      simp only [z2] at hH88
      refine AD <| CW.region <| V (run_add e47_38 rfl (by omega)) <| mI rfl <| RL.nil <| ?_
      refine ⟨(k + 1, v84, (gs ++ [(kindR 6 (f.names.getD ((lst (ownersG f.rel s)).getD k.toNat 0).toNat tx0) v72 (namesOf f.names (readersG f.rel s ((lst (ownersG f.rel s)).getD k.toNat 0))))]), (Z75 ++ Z)), ?_, fr38.u4.u4.u4.u4.u4.u4, (Hp.conv (hH88.sub (sQ sR)) (by simp [nodeL, kidsR, kindR, NodeR.kind, NodeR.place, NodeR.text, NodeR.nv, NodeR.kv]; done)), (congrArg I (by rfl)), ?_, ?_, ?_, ?_, ?_⟩
      ·((try dsimp only); omega)
      ·omega
      ·omega
      ·rw [rules_next (f := f.fc) h0 ‹k < _›, List.map_append, hm]; exact congrArg (_ ++ [·]) (rule_nd (f := f.fc) (w := s) (o := ((lst (ownersG f.rel s)).getD k.toNat 0)))
      ·exact (hF.mono (Le.zz fun y hy => List.mem_append_right _ hy)).snoc (NodeV.mono (Le.zz fun y hy => List.mem_append_left _ hy) (kindR_v hv78))
      ·simp only [List.length_append, List.length_singleton]; omega
     ·refine AO.callF rfl gnone rfl hH67 (sP (sQ (sQ sR))) (c_spell_constant_1 K b3 f (readersG f.rel s ((lst (ownersG f.rel s)).getD k.toNat 0)) (sub_r (f := f.fc) hR ‹f.kind = 3› _ _) _ (hK.trans hH67.kw) (hf.mono (hK.trans hH67.kw)) (hH67.blk (i := 4) rfl) (hT.hp hH67)) (run_callC1 call55 (cs := [.pointer (some ⟨b3, 0, none⟩)]) rfl rfl) <| fun v91 w92 Z94 hH93 hp95 => have hH96 : Hp _ w92 (_ :: _ :: _ :: _ :: _ :: (Z94 ++ Z)) := hH93.zin (L := [_, _, _, _, _]) (L' := Z); have hv97 := hp95; AQ 14 rfl (hH96.sub (sP (sQ (sQ (sP (sP (sA sR))))))) (run_bld (vs := [(0, I 6), (2, S (f.names.getD ((lst (ownersG f.rel s)).getD k.toNat 0).toNat tx0)), (3, v91)]) rfl (built_nodeTN (one_slv hv97).2 6 (f.names.getD ((lst (ownersG f.rel s)).getD k.toNat 0).toNat tx0) (namesOf f.names (readersG f.rel s ((lst (ownersG f.rel s)).getD k.toNat 0))))) <| AN.two 1 15 (by kernel_rfl) ?_ ?_
      ·refine AO.read rfl gnone rfl hH96 (sP (sQ (sQ (sP (sP (sA sR)))))) (run_ld underlying75 rfl rfl (hH96.cell (i := 2) rfl rfl)) <| A1 15 <| AO.new rfl gnone rfl hH96 (sP (sQ (sQ (sP (sP (sA sR)))))) (f := fun b => .slice (some ⟨b, 0, none⟩) 1 1) (run_mkRecs nodeL_len underlying75 rfl rfl rfl (l := [(kindR 6 (f.names.getD ((lst (ownersG f.rel s)).getD k.toNat 0).toNat tx0) v91 (namesOf f.names (readersG f.rel s ((lst (ownersG f.rel s)).getD k.toNat 0))))]) rfl (by decide) (by decide) rfl) <| fun b102 w100 hH101 => A1 16 <| AO.app rfl gnone rfl hH101 (j := 2) rfl (fun _ => (sQ (sP (sQ (sQ (sP (sP (sA sR)))))))) (Hp.slFlat nodeL_len hH101 (i := 0) (l := [(kindR 6 (f.names.getD ((lst (ownersG f.rel s)).getD k.toNat 0).toNat tx0) v91 (namesOf f.names (readersG f.rel s ((lst (ownersG f.rel s)).getD k.toNat 0))))]) rfl (by simp [maxLen])) rfl rfl underlying75 rfl rfl (size := 5) (bytes := 80) rfl rfl rfl (by decide) (node1_one (kindR_v hv97)) (by simp only [List.length_cons, List.length_nil]; omega) (by simp only [maxLen, List.length_cons, List.length_nil]; omega) <| fun v105 w103 hH104 => ?_
       simp only [z2] at hH104
       refine AQ 17 rfl (hH104.sub (sQ (sP (sQ (sQ (sP (sP (sA sR)))))))) (fA underlying77 4 rfl sizeOf75 e6_38) <| A1 18 <| AO.set rfl gnone hH104 (j := 3) rfl (sQ (sP (sQ (sQ (sP (sP (sA sR))))))) (run_st rfl rfl (v := v105) rfl (row_cells (hH104.get (i := 2) rfl)).1 (row_cells (hH104.get (i := 2) rfl)).2 (hH104.blk (i := 3) rfl) (by show 4 < 5; decide)) <| fun w108 hH109 => ?_
       simp only [z2] at hH109
       refine AD <| CW.region <| V (run_add e47_38 rfl (by omega)) <| mI rfl <| RL.nil <| ?_
       refine ⟨(k + 1, v105, (gs ++ [(kindR 6 (f.names.getD ((lst (ownersG f.rel s)).getD k.toNat 0).toNat tx0) v91 (namesOf f.names (readersG f.rel s ((lst (ownersG f.rel s)).getD k.toNat 0))))]), (Z94 ++ Z)), ?_, fr38.u4.u4.u4.u4.u4.u4, (Hp.conv (hH109.sub (sQ sR)) (by simp [nodeL, kidsR, kindR, NodeR.kind, NodeR.place, NodeR.text, NodeR.nv, NodeR.kv]; done)), (congrArg I (by rfl)), ?_, ?_, ?_, ?_, ?_⟩
       ·((try dsimp only); omega)
       ·omega
       ·omega
       ·rw [rules_next (f := f.fc) h0 ‹k < _›, List.map_append, hm]; exact congrArg (_ ++ [·]) (rule_nd (f := f.fc) (w := s) (o := ((lst (ownersG f.rel s)).getD k.toNat 0)))
       ·exact (hF.mono (Le.zz fun y hy => List.mem_append_right _ hy)).snoc (NodeV.mono (Le.zz fun y hy => List.mem_append_left _ hy) (kindR_v hv97))
       ·simp only [List.length_append, List.length_singleton]; omega
      ·refine AO.new rfl gnone rfl hH96 (sP (sQ (sQ (sP (sP (sA sR)))))) (f := fun b => .slice (some ⟨b, 0, none⟩) 1 1) (run_mkRecs nodeL_len underlying75 rfl rfl rfl (l := [(kindR 6 (f.names.getD ((lst (ownersG f.rel s)).getD k.toNat 0).toNat tx0) v91 (namesOf f.names (readersG f.rel s ((lst (ownersG f.rel s)).getD k.toNat 0))))]) rfl (by decide) (by decide) rfl) <| fun b112 w110 hH111 => A1 1 <| AO.read rfl gnone rfl hH111 (sQ (sP (sQ (sQ (sP (sP (sA sR))))))) (run_ld underlying75 rfl rfl (hH111.cell (i := 3) rfl rfl)) <| A1 16 <| AO.app rfl gnone rfl hH111 (j := 2) rfl (fun _ => (sQ (sP (sQ (sQ (sP (sP (sA sR)))))))) (Hp.slFlat nodeL_len hH111 (i := 0) (l := [(kindR 6 (f.names.getD ((lst (ownersG f.rel s)).getD k.toNat 0).toNat tx0) v91 (namesOf f.names (readersG f.rel s ((lst (ownersG f.rel s)).getD k.toNat 0))))]) rfl (by simp [maxLen])) rfl rfl underlying75 rfl rfl (size := 5) (bytes := 80) rfl rfl rfl (by decide) (node1_one (kindR_v hv97)) (by simp only [List.length_cons, List.length_nil]; omega) (by simp only [maxLen, List.length_cons, List.length_nil]; omega) <| fun v117 w115 hH116 => ?_
       simp only [z2] at hH116
       refine AQ 17 rfl (hH116.sub (sQ (sP (sQ (sQ (sP (sP (sA sR)))))))) (fA underlying77 4 rfl sizeOf75 e6_38) <| A1 18 <| AO.set rfl gnone hH116 (j := 3) rfl (sQ (sP (sQ (sQ (sP (sP (sA sR))))))) (run_st rfl rfl (v := v117) rfl (row_cells (hH116.get (i := 2) rfl)).1 (row_cells (hH116.get (i := 2) rfl)).2 (hH116.blk (i := 3) rfl) (by show 4 < 5; decide)) <| fun w120 hH121 => ?_
       simp only [z2] at hH121
       refine AD <| CW.region <| V (run_add e47_38 rfl (by omega)) <| mI rfl <| RL.nil <| ?_
       refine ⟨(k + 1, v117, (gs ++ [(kindR 6 (f.names.getD ((lst (ownersG f.rel s)).getD k.toNat 0).toNat tx0) v91 (namesOf f.names (readersG f.rel s ((lst (ownersG f.rel s)).getD k.toNat 0))))]), (Z94 ++ Z)), ?_, fr38.u4.u4.u4.u4.u4.u4, (Hp.conv (hH121.sub (sQ sR)) (by simp [nodeL, kidsR, kindR, NodeR.kind, NodeR.place, NodeR.text, NodeR.nv, NodeR.kv]; done)), (congrArg I (by rfl)), ?_, ?_, ?_, ?_, ?_⟩
       ·((try dsimp only); omega)
       ·omega
       ·omega
       ·rw [rules_next (f := f.fc) h0 ‹k < _›, List.map_append, hm]; exact congrArg (_ ++ [·]) (rule_nd (f := f.fc) (w := s) (o := ((lst (ownersG f.rel s)).getD k.toNat 0)))
       ·exact (hF.mono (Le.zz fun y hy => List.mem_append_right _ hy)).snoc (NodeV.mono (Le.zz fun y hy => List.mem_append_left _ hy) (kindR_v hv97))
       ·simp only [List.length_append, List.length_singleton]; omega
   ·refine CW.exit (id := 1) rfl <| SR <| ?_
    obtain ⟨Z122, hz123, hv124, -⟩ := (hH38.perm (((pC pR).trans pS).trans (pC pR))).frz (K)
    have hH125 : Hp _ w38 (_ :: _ :: _ :: _ :: (Z122 ++ Z)) := hz123.zin (L := [_, _, _, _]) (L' := Z)
    have hN126 : NodeV (Kz K (Z122 ++ Z)) ((kidsR (kindN f.fc) kv gs)) := kidsR_v (hv124.mono (Le.zz fun x hx => List.mem_append_left _ hx)) (hF.mono (Le.zz fun x hx => List.mem_append_right _ hx))
    refine V (run_ldA (cs := nodeL ((kidsR (kindN f.fc) kv gs))) underlying77 rfl rfl e6_38 (rangeAt_cells (hH125.blk (i := 1) rfl))) <| RL.set hH125 (i := 2) rfl (run_stW (c' := (nodeL ((kidsR (kindN f.fc) kv gs))).toArray) rfl e4_38 rfl (nodeL_one hN126) (hH125.blk (i := 2) rfl) rfl) <| fun w127 hH128 => ?_
    simp only [z2] at hH128
    refine RL.nil <| CW.ret <| outCg Tryd.results42 e4_38 hH128 (i := 2) rfl underlying77 rfl rfl ⟨(Z122 ++ Z), (hH128.sub (sQ (sQ (sQ (sQ sR))))), (kidsR (kindN f.fc) kv gs), rfl, ?_, hN126⟩
    exact nd_3 ‹_› (hm.trans (rules_all ‹_›))
  ·refine SR <| V (run_eql rfl rfl) <| aB rfl <| RL.nil <| CW.condP rfl (fun h130 => ?_) (fun h130 => ?_)
   ·refine SR <| V (fA underlying44 2 rfl sizeOf42 rfl) <| V (run_ldBR underlying42 rfl rfl rfl (hH14.blk (i := 3) rfl)) <| mU rfl <| RL.callP rfl hH14 (c_hasse_Point _ _  _ (hT.hp hH14)) (run_call2 call47 rfl rfl) <| fun w131 hH132 => ?_
    refine V (run_move (by conv => lhs; whnf)) ?_
    refine V (run_extract rfl (v := I _) rfl) <| V (run_extract rfl (v := B _) rfl) <| aI rfl <| aB rfl <| RL.nil <| CW.region <| V (fA underlying44 1 rfl sizeOf39 rfl) <| V (run_ld underlying39 rfl rfl (hH132.cell (i := 3) rfl rfl)) <| mI rfl <| V (run_indexAddrS ((hf.mono hK).names.sl.hp hH132) underlying39 sizeOf9 rfl rfl (by exact pt_in (f := f.fc) hR ‹f.kind = 4› hw)) <| V (run_ld underlying9 rfl rfl (((hf.mono hK).names.sl.hp hH132).cell _ _ (txL_at (by exact pt_in (f := f.fc) hR ‹f.kind = 4› hw)))) <| V (fA underlying77 2 rfl sizeOf9 rfl) <| RL.set hH132 (i := 1) rfl (run_st rfl rfl (v := .string _) rfl rfl rfl (hH132.blk (i := 1) rfl) (by show 2 < 5; decide)) <| fun w134 hH135 => ?_
    simp only [z2] at hH135
    refine RL.nil <| SR <| have hN136 : NodeV (Kz K []) ((kindR (kindN f.fc) (f.names.getD (pointV f.rel s).1.toNat tx0) (.slice none 0 0) [])) := kindR_v (SlV.nil _ _); V (run_ldA (cs := nodeL ((kindR (kindN f.fc) (f.names.getD (pointV f.rel s).1.toNat tx0) (.slice none 0 0) []))) underlying77 rfl rfl rfl (rangeAt_cells (hH135.blk (i := 1) rfl))) <| RL.set hH135 (i := 2) rfl (run_stW (c' := (nodeL ((kindR (kindN f.fc) (f.names.getD (pointV f.rel s).1.toNat tx0) (.slice none 0 0) []))).toArray) rfl rfl rfl (nodeL_one hN136) (hH135.blk (i := 2) rfl) rfl) <| fun w137 hH138 => ?_
    simp only [z2] at hH138
    refine RL.nil <| CW.ret <| outCg Tryd.results42 rfl hH138 (i := 2) rfl underlying77 rfl rfl ⟨[], (hH138.sub (sQ (sQ (sQ (sQ sR))))), (kindR (kindN f.fc) (f.names.getD (pointV f.rel s).1.toNat tx0) (.slice none 0 0) []), rfl, ?_, hN136⟩
    exact nd_4 ‹_›
   ·refine SR <| V (fA underlying44 1 rfl sizeOf39 rfl) <| V (run_ld underlying39 rfl rfl (hH14.cell (i := 3) rfl rfl)) <| V (run_lenSl ((hf.mono hK).names.sl.hp hH14) rfl underlying39 rfl) <| mU rfl <| RL.callP rfl hH14 (c_rung_Level _ _  _) (run_call2 call62 rfl rfl) <| fun w139 hH140 => ?_
    refine V (run_move (by conv => lhs; whnf)) ?_
    refine V (run_extract rfl (v := I _) rfl) <| V (run_extract rfl (v := B _) rfl) <| aI rfl <| aB rfl <| RL.nil <| CW.region <| V (fA underlying44 1 rfl sizeOf39 rfl) <| V (run_ld underlying39 rfl rfl (hH140.cell (i := 3) rfl rfl)) <| mI rfl <| V (run_indexAddrS ((hf.mono hK).names.sl.hp hH140) underlying39 sizeOf9 rfl rfl (by exact lv_in (f := f.fc) (kind_cases hR ‹_› ‹_› ‹_›) hw)) <| V (run_ld underlying9 rfl rfl (((hf.mono hK).names.sl.hp hH140).cell _ _ (txL_at (by exact lv_in (f := f.fc) (kind_cases hR ‹_› ‹_› ‹_›) hw)))) <| V (fA underlying77 2 rfl sizeOf9 rfl) <| RL.set hH140 (i := 1) rfl (run_st rfl rfl (v := .string _) rfl rfl rfl (hH140.blk (i := 1) rfl) (by show 2 < 5; decide)) <| fun w142 hH143 => ?_
    simp only [z2] at hH143
    refine RL.nil <| SR <| have hN144 : NodeV (Kz K []) ((kindR (kindN f.fc) (f.names.getD (level f.names.length s).1.toNat tx0) (.slice none 0 0) [])) := kindR_v (SlV.nil _ _); V (run_ldA (cs := nodeL ((kindR (kindN f.fc) (f.names.getD (level f.names.length s).1.toNat tx0) (.slice none 0 0) []))) underlying77 rfl rfl rfl (rangeAt_cells (hH143.blk (i := 1) rfl))) <| RL.set hH143 (i := 2) rfl (run_stW (c' := (nodeL ((kindR (kindN f.fc) (f.names.getD (level f.names.length s).1.toNat tx0) (.slice none 0 0) []))).toArray) rfl rfl rfl (nodeL_one hN144) (hH143.blk (i := 2) rfl) rfl) <| fun w145 hH146 => ?_
    simp only [z2] at hH146
    refine RL.nil <| CW.ret <| outCg Tryd.results42 rfl hH146 (i := 2) rfl underlying77 rfl rfl ⟨[], (hH146.sub (sQ (sQ (sQ (sQ sR))))), (kindR (kindN f.fc) (f.names.getD (level f.names.length s).1.toNat tx0) (.slice none 0 0) []), rfl, ?_, hN144⟩
    exact nd_1 ‹_› ‹_› ‹_›
theorem c_spell_Node (K : Vu) (s : Shp) (e : El) (w : World) (hK : Le K (Kw w)) (hs : ShpV K s) (hT : Tab w) : Calls Tryd.prog 31 #[.agg (shpC s), .agg (elC e)] w (PureF K (fun K' u => ∃ n : NodeR, u = .agg (nodeL n).toArray ∧ n.nd = nodeF s.sh e ∧ NodeV K' n) w) := by
 have hsl := sh_len s
 have hm := hs.facs.small
 unfold maxLen at hm
 refine enter Tryd.func31 rfl Tryd.ntmps31 rfl <| have hH := Hp.start w; SR <| RL.new rfl hH (f := fun b => (.pointer (some ⟨b, 0, none⟩))) (run_box (v := .agg _) rfl) <| fun b3 w1 hH2 => RL.new rfl hH2 (f := fun b => (.pointer (some ⟨b, 0, none⟩))) (run_box (v := .agg _) rfl) <| fun b6 w4 hH5 => RL.new rfl hH5 (f := fun b => (.pointer (some ⟨b, 0, none⟩))) (run_alloc Tryd.zeroValue77) <| fun b9 w7 hH8 => RL.nil <| CW.seq <| SR <| V (run_ldA (cs := [B _, _]) underlying47 rfl rfl rfl (rangeAt_cells (hH8.blk (i := 2) rfl))) <| V (run_ldEl underlying25 rfl rfl rfl (hH8.blk (i := 1) rfl)) <| RL.callP rfl hH8 (c_shape_Fits _ _  _ ((hs.mono hK).mono hH8.kw) (hT.hp hH8)) (run_call2 call21 rfl rfl) <| fun w10 hH11 => V (run_not rfl) <| RL.nil <| CW.cond rfl (fun h14 => ?_) (fun h14 => ?_)
 ·refine SR <| V (run_bld (vs := []) rfl built_node0) <| RL.set hH11 (i := 0) rfl (run_stW (c' := (nodeL node0).toArray) rfl rfl rfl (nodeL_one (node0_v (K := Kw w))) (hH11.blk (i := 0) rfl) rfl) <| fun w15 hH16 => ?_
  simp only [z2] at hH16
  refine RL.nil <| CW.ret <| outCg Tryd.results31 rfl hH16 (i := 0) rfl underlying77 rfl rfl ⟨[], (hH16.sub (sQ (sQ (sQ sR)))), node0, rfl, ?_, node0_v⟩
  rw [nodeF_no (nt ‹(!fitsS s.sh e) = true›)]; exact node0_nd
 ·refine CW.skip <| CW.seq <| SR <| V (fA underlying47 0 rfl sizeOf4 rfl) <| V (run_ld underlying4 rfl rfl (hH11.cell (i := 2) rfl (v := B _) rfl)) <| V (run_not rfl) <| RL.nil <| CW.cond rfl (fun h19 => ?_) (fun h19 => ?_)
  ·refine CW.seq <| have hfit := nf ‹(!fitsS s.sh e) = false›; have hfl := fit_len hfit; CW.regionS (by kernel_rfl) hH11 (sQ sR) <| fun w20 hH21 => have zh21 := hH21.sub (sQ sR); AQ 0 rfl zh21 (fA underlying47 1 rfl sizeOf45 rfl) <| AT 1 rfl zh21 (fun w hS => run_ld underlying45 rfl rfl (hS.cell (i := 1) rfl rfl)) <| AT 2 rfl zh21 (fun w hS => run_indexAddrS ((hs.mono hK).facs.sl.hp hS) underlying45 sizeOf44 rfl rfl (by omega)) <| AT 3 rfl zh21 (fun w hS => run_ldE (dv := fac0) facL_len ((hs.mono hK).facs.sl.hp hS) underlying44 rfl rfl rfl (by omega)) <| AQ 4 rfl zh21 (run_indexAddrA underlying25 sizeOf23 rfl rfl (by omega)) <| AT 5 rfl zh21 (fun w hS => run_ld underlying23 rfl rfl (hS.cell (i := 0) rfl (elC_at _ (by omega)))) <| A1 6 <| AO.callF rfl gnone rfl hH21 (sQ sR) (c_spell_constant K (s.facs.getD (0 : Int).toNat fac0) (e (0 : Int).toNat) (fitR hfit (k := 0) (by omega) (by omega)).1 (fitR hfit (k := 0) (by omega) (by omega)).2 _ (hK.trans hH21.kw) (hs.at (k := 0) (by omega) (by omega)) (hT.hp hH21)) (run_call2 call42 rfl rfl) <| fun v24 w25 Z27 hH26 hp28 => have hH29 : Hp _ w25 (_ :: _ :: _ :: Z27) := hH26.zin0 (L := [_, _, _]); ?_
   obtain ⟨n30, rfl, nd31, nv32⟩ := hp28
   refine A1 7 <| AO.set rfl gnone hH29 (j := 0) rfl (sQ (sP (sP (List.nil_sublist _)))) (run_stW (c' := (nodeL n30).toArray) rfl rfl rfl (nodeL_one nv32) (hH29.blk (i := 0) rfl) rfl) <| fun w35 hH36 => ?_
   simp only [z2] at hH36
   refine AD <| CW.ret <| outCg Tryd.results31 rfl hH36 (i := 0) rfl underlying77 rfl rfl ⟨Z27, (hH36.sub (sQ (sQ (sQ sR)))), n30, rfl, ?_, nv32⟩
   rw [nodeF_1 (nf ‹(!fitsS s.sh e) = false›) (nt ‹(!s.tuple) = true›)]; exact nd31
  ·refine CW.skip <| SR <| V (run_bld (vs := [(0, I 4)]) rfl (built_nodeK 4)) <| RL.new rfl hH11 (f := fun b => (.pointer (some ⟨b, 0, none⟩))) (run_alloc Tryd.zeroValue77) <| fun b39 w37 hH38 => RL.set hH38 (i := 0) rfl (run_stW (c' := (nodeL (kindR 4 tx0 (.slice none 0 0) [])).toArray) rfl rfl rfl (nodeL_one (kindR_v (SlV.nil (Kw w) _))) (hH38.blk (i := 0) rfl) rfl) <| fun w40 hH41 => ?_
   simp only [z2] at hH41
   have hH42 := hH41.nilRow 77 5
   refine RL.nil <| CW.seq <| SR <| V (fA underlying47 1 rfl sizeOf45 rfl) <| V (run_ld underlying45 rfl rfl (hH42.cell (i := 4) rfl rfl)) <| V (run_lenSl ((hs.mono hK).facs.sl.hp hH42) rfl underlying45 rfl) <| vm (v := I 0) rfl <| RL.nil <| CW.block <| have hfit := nf ‹(!fitsS s.sh e) = false›; have hfl := fit_len hfit; CW.loop (G := Int × Value × (List NodeR) × (List Ent)) (fun ⟨k, kv, gs, Z⟩ s' w' => (Fr (6 :: 7 :: (rg 27 16 [])) _ s') ∧ (Hp w w' (.row kv 77 5 (gs.length) (gs.flatMap nodeL) :: .blk b39 (.cells ((nodeL (kidsR 4 kv gs)).toArray) 77 (0, 0)) :: _ :: _ :: _ :: Z)) ∧ (s' 27 = I k) ∧ (0 ≤ k) ∧ (k ≤ s.facs.length) ∧ (gs.map NodeR.nd = constsTo s.sh e k) ∧ (NodesV (Kz K Z) gs) ∧ ((gs.length : Int) = k)) (fun ⟨k, kv, gs, Z⟩ => (s.facs.length - k).toNat) ((0, (.slice none 0 0 : Value), [], [])) ⟨Fr.refl _ _, hH42, rfl, (by omega), (by omega), rfl, NodesV.nil _, rfl⟩ <| ?_
   rintro ⟨k, kv, gs, Z⟩ sg43 w43 ⟨fr43, hH43, e27_43, h0, hk, hm, hF, hb⟩
   have e3_43 := fr43.pp 3 rfl rfl
   have e4_43 := fr43.pp 4 rfl rfl
   have e5_43 := fr43.pp 5 rfl rfl
   have e25_43 := (fr43 25 rfl).trans (by conv => lhs; whnf)
   have e26_43 := fr43.ii 26 rfl rfl
   refine SR <| V (run_lss e27_43 e26_43) <| RL.nil <| CW.seq <| CW.condP rfl (fun h45 => ?_) (fun h45 => ?_)
   ·refine CW.skip <| CW.seq <| CW.block <| SR <| vm e27_43 <| V (run_indexAddrS ((hs.mono hK).facs.sl.hp hH43) underlying45 sizeOf44 e25_43 e27_43 (by omega)) <| V (run_ldE (dv := fac0) facL_len ((hs.mono hK).facs.sl.hp hH43) underlying44 rfl rfl rfl (by omega)) <| RL.new rfl hH43 (f := fun b => (.pointer (some ⟨b, 0, none⟩))) (run_alloc zero_fac) <| fun b48 w46 hH47 => aI rfl <| RL.set hH47 (i := 0) rfl (run_stFac ((hs.mono hK).at (by omega) (by omega)) rfl rfl rfl (hH47.blk (i := 0) rfl)) <| fun w49 hH50 => ?_
    simp only [z2] at hH50
    refine RL.nil <| CW.regionS (by kernel_rfl) hH50 (sP (sQ (sQ sR))) <| fun w51 hH52 => have zh52 := hH52.sub (sP (sQ (sQ sR))); AQ 0 rfl zh52 (fA underlying77 4 rfl sizeOf75 e5_43) <| AT 2 rfl zh52 (fun w hS => run_ldFac underlying44 rfl rfl rfl (hS.blk (i := 0) rfl)) <| AQ 3 rfl zh52 (mV (I _) rfl) <| AQ 4 rfl zh52 (run_indexAddrA underlying25 sizeOf23 e3_43 rfl (by omega)) <| AT 5 rfl zh52 (fun w hS => run_ld underlying23 rfl rfl (hS.cell (i := 2) rfl (elC_at _ (by omega)))) <| AN.two 1 6 (by kernel_rfl) ?_ ?_
    ·refine AO.read rfl gnone rfl hH52 (sP (sQ (sQ sR))) (run_ld underlying75 rfl rfl (hH52.cell (i := 2) rfl rfl)) <| A1 6 <| AO.callF rfl gnone rfl hH52 (sP (sQ (sQ sR))) (c_spell_constant K (s.facs.getD k.toNat fac0) (e k.toNat) (fitR hfit h0 (by omega)).1 (fitR hfit h0 (by omega)).2 _ (hK.trans hH52.kw) (hs.at h0 (by omega)) (hT.hp hH52)) (run_call2 call42 rfl rfl) <| fun v57 w58 Z60 hH59 hp61 => have hH62 : Hp _ w58 (_ :: _ :: _ :: _ :: _ :: _ :: (Z60 ++ Z)) := hH59.zin (L := [_, _, _, _, _, _]) (L' := Z); ?_
     obtain ⟨n63, rfl, nd64, nv65⟩ := hp61
     refine A1 7 <| AO.new rfl gnone rfl hH62 (sP (sQ (sQ (sP (sP (sP (sA sR))))))) (f := fun b => .slice (some ⟨b, 0, none⟩) 1 1) (run_mkRecs nodeL_len underlying75 rfl rfl rfl (l := [n63]) rfl (by decide) (by decide) rfl) <| fun b68 w66 hH67 => A1 8 <| AO.app rfl gnone rfl hH67 (j := 2) rfl (fun _ => (sQ (sP (sQ (sQ (sP (sP (sP (sA sR))))))))) (Hp.slFlat nodeL_len hH67 (i := 0) (l := [n63]) rfl (by simp [maxLen])) rfl rfl underlying75 rfl rfl (size := 5) (bytes := 80) rfl rfl rfl (by decide) (node1_one nv65) (by simp only [List.length_cons, List.length_nil]; omega) (by simp only [maxLen, List.length_cons, List.length_nil]; omega) <| fun v71 w69 hH70 => ?_
     simp only [z2] at hH70
     refine AQ 9 rfl (hH70.sub (sQ (sP (sQ (sQ (sP (sP (sP (sA sR))))))))) (fA underlying77 4 rfl sizeOf75 e5_43) <| A1 10 <| AO.set rfl gnone hH70 (j := 3) rfl (sQ (sP (sQ (sQ (sP (sP (sP (sA sR)))))))) (run_st rfl rfl (v := v71) rfl (row_cells (hH70.get (i := 2) rfl)).1 (row_cells (hH70.get (i := 2) rfl)).2 (hH70.blk (i := 3) rfl) (by show 4 < 5; decide)) <| fun w74 hH75 => ?_
     simp only [z2] at hH75
     refine AD <| CW.region <| V (run_add e27_43 rfl (by omega)) <| mI rfl <| RL.nil <| ?_
     refine ⟨(k + 1, v71, (gs ++ [n63]), (Z60 ++ Z)), ?_, fr43.u4.u4.u4.u4.u1.u1, (Hp.conv (hH75.sub (sQ (sQ sR))) (by simp [nodeL, kidsR, kindR, NodeR.kind, NodeR.place, NodeR.text, NodeR.nv, NodeR.kv]; done)), (congrArg I (by rfl)), ?_, ?_, ?_, ?_, ?_⟩
     ·((try dsimp only); omega)
     ·omega
     ·omega
     ·rw [consts_nextR h0, List.map_append, hm]; exact congrArg (_ ++ [·]) nd64
     ·exact (hF.mono (Le.zz fun y hy => List.mem_append_right _ hy)).snoc (NodeV.mono (Le.zz fun y hy => List.mem_append_left _ hy) nv65)
     ·simp only [List.length_append, List.length_singleton]; omega
    ·refine AO.callF rfl gnone rfl hH52 (sP (sQ (sQ sR))) (c_spell_constant K (s.facs.getD k.toNat fac0) (e k.toNat) (fitR hfit h0 (by omega)).1 (fitR hfit h0 (by omega)).2 _ (hK.trans hH52.kw) (hs.at h0 (by omega)) (hT.hp hH52)) (run_call2 call42 rfl rfl) <| fun v78 w79 Z81 hH80 hp82 => have hH83 : Hp _ w79 (_ :: _ :: _ :: _ :: _ :: _ :: (Z81 ++ Z)) := hH80.zin (L := [_, _, _, _, _, _]) (L' := Z); ?_
     obtain ⟨n84, rfl, nd85, nv86⟩ := hp82
     refine AN.two 1 7 (by kernel_rfl) ?_ ?_
     ·refine AO.read rfl gnone rfl hH83 (sP (sQ (sQ (sP (sP (sP (sA sR))))))) (run_ld underlying75 rfl rfl (hH83.cell (i := 2) rfl rfl)) <| A1 7 <| AO.new rfl gnone rfl hH83 (sP (sQ (sQ (sP (sP (sP (sA sR))))))) (f := fun b => .slice (some ⟨b, 0, none⟩) 1 1) (run_mkRecs nodeL_len underlying75 rfl rfl rfl (l := [n84]) rfl (by decide) (by decide) rfl) <| fun b91 w89 hH90 => A1 8 <| AO.app rfl gnone rfl hH90 (j := 2) rfl (fun _ => (sQ (sP (sQ (sQ (sP (sP (sP (sA sR))))))))) (Hp.slFlat nodeL_len hH90 (i := 0) (l := [n84]) rfl (by simp [maxLen])) rfl rfl underlying75 rfl rfl (size := 5) (bytes := 80) rfl rfl rfl (by decide) (node1_one nv86) (by simp only [List.length_cons, List.length_nil]; omega) (by simp only [maxLen, List.length_cons, List.length_nil]; omega) <| fun v94 w92 hH93 => ?_
      simp only [z2] at hH93
      refine AQ 9 rfl (hH93.sub (sQ (sP (sQ (sQ (sP (sP (sP (sA sR))))))))) (fA underlying77 4 rfl sizeOf75 e5_43) <| A1 10 <| AO.set rfl gnone hH93 (j := 3) rfl (sQ (sP (sQ (sQ (sP (sP (sP (sA sR)))))))) (run_st rfl rfl (v := v94) rfl (row_cells (hH93.get (i := 2) rfl)).1 (row_cells (hH93.get (i := 2) rfl)).2 (hH93.blk (i := 3) rfl) (by show 4 < 5; decide)) <| fun w97 hH98 => ?_
      simp only [z2] at hH98
      refine AD <| CW.region <| V (run_add e27_43 rfl (by omega)) <| mI rfl <| RL.nil <| ?_
      refine ⟨(k + 1, v94, (gs ++ [n84]), (Z81 ++ Z)), ?_, fr43.u4.u4.u4.u4.u1.u1, (Hp.conv (hH98.sub (sQ (sQ sR))) (by simp [nodeL, kidsR, kindR, NodeR.kind, NodeR.place, NodeR.text, NodeR.nv, NodeR.kv]; done)), (congrArg I (by rfl)), ?_, ?_, ?_, ?_, ?_⟩
      ·((try dsimp only); omega)
      ·omega
      ·omega
      ·rw [consts_nextR h0, List.map_append, hm]; exact congrArg (_ ++ [·]) nd85
      ·exact (hF.mono (Le.zz fun y hy => List.mem_append_right _ hy)).snoc (NodeV.mono (Le.zz fun y hy => List.mem_append_left _ hy) nv86)
      ·simp only [List.length_append, List.length_singleton]; omega
     ·refine AO.new rfl gnone rfl hH83 (sP (sQ (sQ (sP (sP (sP (sA sR))))))) (f := fun b => .slice (some ⟨b, 0, none⟩) 1 1) (run_mkRecs nodeL_len underlying75 rfl rfl rfl (l := [n84]) rfl (by decide) (by decide) rfl) <| fun b101 w99 hH100 => A1 1 <| AO.read rfl gnone rfl hH100 (sQ (sP (sQ (sQ (sP (sP (sP (sA sR)))))))) (run_ld underlying75 rfl rfl (hH100.cell (i := 3) rfl rfl)) <| A1 8 <| AO.app rfl gnone rfl hH100 (j := 2) rfl (fun _ => (sQ (sP (sQ (sQ (sP (sP (sP (sA sR))))))))) (Hp.slFlat nodeL_len hH100 (i := 0) (l := [n84]) rfl (by simp [maxLen])) rfl rfl underlying75 rfl rfl (size := 5) (bytes := 80) rfl rfl rfl (by decide) (node1_one nv86) (by simp only [List.length_cons, List.length_nil]; omega) (by simp only [maxLen, List.length_cons, List.length_nil]; omega) <| fun v106 w104 hH105 => ?_
      simp only [z2] at hH105
      refine AQ 9 rfl (hH105.sub (sQ (sP (sQ (sQ (sP (sP (sP (sA sR))))))))) (fA underlying77 4 rfl sizeOf75 e5_43) <| A1 10 <| AO.set rfl gnone hH105 (j := 3) rfl (sQ (sP (sQ (sQ (sP (sP (sP (sA sR)))))))) (run_st rfl rfl (v := v106) rfl (row_cells (hH105.get (i := 2) rfl)).1 (row_cells (hH105.get (i := 2) rfl)).2 (hH105.blk (i := 3) rfl) (by show 4 < 5; decide)) <| fun w109 hH110 => ?_
      simp only [z2] at hH110
      refine AD <| CW.region <| V (run_add e27_43 rfl (by omega)) <| mI rfl <| RL.nil <| ?_
      refine ⟨(k + 1, v106, (gs ++ [n84]), (Z81 ++ Z)), ?_, fr43.u4.u4.u4.u4.u1.u1, (Hp.conv (hH110.sub (sQ (sQ sR))) (by simp [nodeL, kidsR, kindR, NodeR.kind, NodeR.place, NodeR.text, NodeR.nv, NodeR.kv]; done)), (congrArg I (by rfl)), ?_, ?_, ?_, ?_, ?_⟩
      ·((try dsimp only); omega)
      ·omega
      ·omega
      ·rw [consts_nextR h0, List.map_append, hm]; exact congrArg (_ ++ [·]) nd85
      ·exact (hF.mono (Le.zz fun y hy => List.mem_append_right _ hy)).snoc (NodeV.mono (Le.zz fun y hy => List.mem_append_left _ hy) nv86)
      ·simp only [List.length_append, List.length_singleton]; omega
   ·refine CW.exit (id := 0) rfl <| SR <| ?_
    obtain ⟨Z111, hz112, hv113, -⟩ := hH43.frz (K)
    have hH114 : Hp _ w43 (_ :: _ :: _ :: _ :: (Z111 ++ Z)) := hz112.zin (L := [_, _, _, _]) (L' := Z)
    have hN115 : NodeV (Kz K (Z111 ++ Z)) ((kidsR 4 kv gs)) := kidsR_v (hv113.mono (Le.zz fun x hx => List.mem_append_left _ hx)) (hF.mono (Le.zz fun x hx => List.mem_append_right _ hx))
    refine V (run_ldA (cs := nodeL ((kidsR 4 kv gs))) underlying77 rfl rfl e5_43 (rangeAt_cells (hH114.blk (i := 0) rfl))) <| RL.set hH114 (i := 1) rfl (run_stW (c' := (nodeL ((kidsR 4 kv gs))).toArray) rfl e4_43 rfl (nodeL_one hN115) (hH114.blk (i := 1) rfl) rfl) <| fun w116 hH117 => ?_
    simp only [z2] at hH117
    refine RL.nil <| CW.ret <| outCg Tryd.results31 e4_43 hH117 (i := 1) rfl underlying77 rfl rfl ⟨(Z111 ++ Z), (hH117.sub (sQ (sQ (sQ (sQ sR))))), (kidsR 4 kv gs), rfl, ?_, hN115⟩
    exact nodeF_t hfit (nf ‹(!s.tuple) = false›) (by omega) hm
theorem c_term_commas (n : Int) (f : FuncId) (cs : List Value) (T : Int → Tx) (hn : 0 ≤ n ∧ n ≤ 9223372036854775807) (hsz : ((upto n).map fun i => (T i).size + 1).sum ≤ 999999996) (w : World) (hf : ∀ args w, (callFunc f args).run Tryd.prog w = .ok (.enter f args) w) (go : ∀ i w', Below w.heap.size w w' → 0 ≤ i → i < n → Calls Tryd.prog f (I i :: cs).toArray w' (Pure (S (T i)) w')) : Calls Tryd.prog 52 #[I n, .func (.func f) #[] cs.toArray] w (Pure (S (commasTo T n)) w) := by
 refine enter Tryd.func52 rfl Tryd.ntmps52 rfl <| have hH := Hp.start w; SR <| va (v := .string ⟨#[]⟩) rfl <| RL.nil <| SR <| va (v := .slice none 0 0) rfl <| have hH1 := hH.nilRow 5 1; RL.nil <| CW.seq <| SR <| mI rfl <| vm (v := I 0) rfl <| RL.nil <| CW.block <| CW.loop (G := Int × Tx × Value) (fun ⟨k, m, v5⟩ s' w' => (Fr (5 :: 6 :: (rg 8 14 [])) _ s') ∧ (Hp w w' (.row v5 5 1 (m.size) (byL m) :: _)) ∧ (s' 5 = v5) ∧ (s' 8 = I k) ∧ (0 ≤ k) ∧ (k ≤ n) ∧ (m = commasTo T k)) (fun ⟨k, m, v5⟩ => (n - k).toNat) ((0, tx0, (.slice none 0 0 : Value))) ⟨Fr.refl _ _, hH1, rfl, rfl, (by omega), (by omega), rfl⟩ <| ?_
 rintro ⟨k, m, v5⟩ sg2 w2 ⟨fr2, hH2, e5_2, e8_2, h0, hk, hm⟩
 have e1_2 := fr2.vv 1 (a := .func _ _ _) rfl rfl
 have e7_2 := fr2.ii 7 rfl rfl
 subst hm
 refine SR <| V (run_lss e8_2 e7_2) <| RL.nil <| CW.seq <| CW.condP rfl (fun h4 => ?_) (fun h4 => ?_)
 ·refine CW.skip <| CW.seq <| CW.block <| SR <| vm e8_2 <| aI rfl <| RL.nil <| CW.seq <| SR <| mI rfl <| V (run_gtr rfl rfl) <| RL.nil <| CW.condP rfl (fun h6 => ?_) (fun h6 => ?_)
  ·refine CW.region <| vm e5_2 <| RL.new rfl hH2 (f := fun b => (.slice (some ⟨b, 0, none⟩) 1 1)) (run_mkL underlying79 rfl rfl (sz := 1) (vs := [.int .u8 44]) rfl rfl (by decide) (by decide) rfl rfl) <| fun b9 w7 hH8 => ?_
   (try simp only [clX] at hH8)
   refine RL.app rfl hH8 (i := 1) rfl (hH8.slBlk (i := 0) (n := 1) (sz := 1) rfl rfl (by decide)) rfl rfl underlying79 rfl rfl (size := 1) (bytes := 1) rfl rfl rfl (by decide) (by simp [Value.oneCell']) (by have := T_sz T h0 ‹k < n›; omega) (by have := T_sz T h0 ‹k < n›; simp only [maxLen]; omega) <| fun v10 w11 hH12 => ?_
   simp only [z2] at hH12
   refine V (run_assign (by conv => lhs; whnf)) ?_
   refine RL.nil <| CW.region <| ?_
   refine V (run_move (by conv => lhs; whnf)) ?_
   refine vm e1_2 <| mI rfl <| RL.callP rfl hH12 (go _ _ hH12.below (by omega) (by omega)) (run_callC1 hf (cs := cs) rfl rfl) <| fun w13 hH14 => RL.appS rfl hH14 (i := 1) rfl rfl rfl underlying79 underlying9 rfl rfl rfl rfl (by have := T_sz T h0 ‹k < n›; (try simp only [List.length_cons, List.length_nil]); omega) <| fun v15 w16 hH17 => ?_
   simp only [z2] at hH17
   refine V (run_assign (by conv => lhs; whnf)) ?_
   refine RL.nil <| CW.region <| V (run_add e8_2 rfl (by omega)) <| mI rfl <| RL.nil <| ?_
   refine ⟨(k + 1, commasTo T (k + 1), v15), ?_, fr2.u4.u4.u4.u4.u1, (Hp.conv (hH17.sub (sQ sR)) (by rw [← commas_2 ‹0 < k›, tx_size_app, tx_size_app, byL_app, byL_app]; rfl)), rfl, (congrArg I (by rfl)), ?_, ?_, ?_⟩
   ·((try dsimp only); omega)
   ·omega
   ·omega
   ·rfl
  ·refine CW.skip <| CW.region <| vm e5_2 <| vm e1_2 <| mI rfl <| RL.callP rfl hH2 (go _ _ hH2.below (by omega) (by omega)) (run_callC1 hf (cs := cs) rfl rfl) <| fun w18 hH19 => RL.appS rfl hH19 (i := 0) rfl rfl rfl underlying79 underlying9 rfl rfl rfl rfl (by have := T_sz T h0 ‹k < n›; (try simp only [List.length_cons, List.length_nil]); omega) <| fun v20 w21 hH22 => ?_
   simp only [z2] at hH22
   refine V (run_assign (by conv => lhs; whnf)) ?_
   refine RL.nil <| CW.region <| V (run_add e8_2 rfl (by omega)) <| mI rfl <| RL.nil <| ?_
   refine ⟨(k + 1, commasTo T (k + 1), v20), ?_, fr2.u4.u4.u4.u1, (Hp.conv hH22 (by rw [← commas_1 (show k = 0 by omega), tx_size_app, byL_app])), rfl, (congrArg I (by rfl)), ?_, ?_, ?_⟩
   ·((try dsimp only); omega)
   ·omega
   ·omega
   ·rfl
 ·refine CW.exit (id := 0) rfl <| SR <| vm e5_2 <| V (run_convBS (s := (commasTo T k)) (hH2.sl (i := 0) rfl) underlying79 underlying5 underlying9 rfl) <| va (v := .string _) rfl <| RL.nil <| CW.ret <| outP1 Tryd.results52 ?_ hH2.below
  exact congrArg S (by rw [show n = k by omega])
theorem c_term_names_1 (b : Nat) (n : NodeR) (i : Int) (hi : 0 ≤ i ∧ i < n.names.length) (w : World) (hn : NodeV (Kw w) n) (hb : w.heap[b]? = some (.cells (nodeL n).toArray 77 (0, 0))) : Calls Tryd.prog 53 #[I i, .pointer (some ⟨b, 0, none⟩)] w (Pure (S (n.names.getD i.toNat wd0).text) w) := by
 refine enter Tryd.func53 rfl Tryd.ntmps53 rfl <| have hH := Hp.start w; SR <| va (v := .string ⟨#[]⟩) rfl <| RL.nil <| SR <| V (fA underlying77 3 rfl sizeOf74 rfl) <| V (run_ldV (hn.names_.sl.hp hH) underlying74 rfl rfl (hH.extCell hb rfl)) <| mI rfl <| V (run_indexAddrS (hn.names_.sl.hp hH) underlying74 sizeOf98 rfl rfl (by omega)) <| V (fA underlying98 0 rfl sizeOf9 rfl) <| V (run_ldE1 (dv := wd0) (off := 0) wdL_len (hn.names_.sl.hp hH) underlying9 rfl rfl (by omega) rfl) <| va (v := .string _) rfl <| RL.nil <| CW.ret <| outP1 Tryd.results53 ?_ hH.below
 rfl
theorem c_term_kids_1 (b : Nat) (n : NodeR) (i : Int) (hi : 0 ≤ i ∧ i < n.kids.length) (htx : TxN n.nd) (w : World) (hn : NodeV (Kw w) n) (hb : w.heap[b]? = some (.cells (nodeL n).toArray 77 (0, 0))) (ih : ∀ x ∈ n.kids, TxN x.nd → ∀ w, NodeV (Kw w) x → Calls Tryd.prog 30 #[.agg (nodeL x).toArray] w (Pure (S (textF x.nd)) w)) : Calls Tryd.prog 54 #[I i, .pointer (some ⟨b, 0, none⟩)] w (Pure (S (textF (n.kids.getD i.toNat node0).nd)) w) := by
 refine enter Tryd.func54 rfl Tryd.ntmps54 rfl <| have hH := Hp.start w; SR <| va (v := .string ⟨#[]⟩) rfl <| RL.nil <| SR <| V (fA underlying77 4 rfl sizeOf75 rfl) <| V (run_ldV (hn.kids_.sl.hp hH) underlying75 rfl rfl (hH.extCell hb rfl)) <| mI rfl <| V (run_indexAddrS (hn.kids_.sl.hp hH) underlying75 sizeOf77 rfl rfl (by omega)) <| V (run_ldE (dv := node0) nodeL_len (hn.kids_.sl.hp hH) underlying77 rfl rfl rfl (by omega)) <| RL.callP rfl hH (ih _ (List.mem_of_getElem? (getD_at (d := node0) hi.1 hi.2)) (htx.kidR (List.mem_of_getElem? (getD_at (d := node0) hi.1 hi.2))) _ (NodeV.mono hH.kw (hn.at hi.1 hi.2))) (run_call1 call30 rfl) <| fun w1 hH2 => va (v := .string _) rfl <| RL.nil <| CW.ret <| outP1 Tryd.results54 ?_ hH2.below
 rfl
theorem c_term_names (n : NodeR) (htx : TxN n.nd) (w : World) (hn : NodeV (Kw w) n) : Calls Tryd.prog 38 #[.agg (nodeL n).toArray] w (Pure (S (namesT n.nd.names)) w) := by
 have hm1 := hn.kids_.small
 have hm2 := hn.names_.small
 unfold maxLen at hm1 hm2
 refine enter Tryd.func38 rfl Tryd.ntmps38 rfl <| have hH := Hp.start w; SR <| RL.new rfl hH (f := fun b => (.pointer (some ⟨b, 0, none⟩))) (run_box (v := .agg _) rfl) <| fun b3 w1 hH2 => va (v := .string ⟨#[]⟩) rfl <| RL.nil <| SR <| V (fA underlying77 3 rfl sizeOf74 rfl) <| V (run_ldV (hn.names_.sl.hp hH2) underlying74 rfl rfl (hH2.cell (i := 0) rfl rfl)) <| V (run_lenSl (hn.names_.sl.hp hH2) rfl underlying74 rfl) <| ?_
 refine V (run_mkF1 (by conv => lhs; whnf)) ?_
 refine RL.callP rfl hH2 (c_term_commas _ 53 [.pointer (some ⟨b3, 0, none⟩)] (fun i => (n.names.getD i.toNat wd0).text) (by omega) (names_bd htx) _ call53 (fun i w h h0 h1 => c_term_names_1 b3 n i ⟨h0, h1⟩ w (NodeV.mono (hH2.kw.trans (Kw.below h)) hn) (keep h (hH2.blk (i := 0) rfl)))) (run_call2 call52 rfl rfl) <| fun w4 hH5 => va (v := .string _) rfl <| RL.nil <| CW.ret <| outP1 Tryd.results38 ?_ hH5.below
 exact congrArg S (names_commas n)
theorem c_term_kids (n : NodeR) (htx : TxN n.nd) (w : World) (hn : NodeV (Kw w) n) (ih : ∀ x ∈ n.kids, TxN x.nd → ∀ w, NodeV (Kw w) x → Calls Tryd.prog 30 #[.agg (nodeL x).toArray] w (Pure (S (textF x.nd)) w)) : Calls Tryd.prog 39 #[.agg (nodeL n).toArray] w (Pure (S (commasF (n.nd.kids.map textF))) w) := by
 have hm1 := hn.kids_.small
 have hm2 := hn.names_.small
 unfold maxLen at hm1 hm2
 refine enter Tryd.func39 rfl Tryd.ntmps39 rfl <| have hH := Hp.start w; SR <| RL.new rfl hH (f := fun b => (.pointer (some ⟨b, 0, none⟩))) (run_box (v := .agg _) rfl) <| fun b3 w1 hH2 => va (v := .string ⟨#[]⟩) rfl <| RL.nil <| SR <| V (fA underlying77 4 rfl sizeOf75 rfl) <| V (run_ldV (hn.kids_.sl.hp hH2) underlying75 rfl rfl (hH2.cell (i := 0) rfl rfl)) <| V (run_lenSl (hn.kids_.sl.hp hH2) rfl underlying75 rfl) <| ?_
 refine V (run_mkF1 (by conv => lhs; whnf)) ?_
 refine RL.callP rfl hH2 (c_term_commas _ 54 [.pointer (some ⟨b3, 0, none⟩)] (fun i => textF (n.kids.getD i.toNat node0).nd) (by omega) (kids_bd htx) _ call54 (fun i w h h0 h1 => c_term_kids_1 b3 n i ⟨h0, h1⟩ htx w (NodeV.mono (hH2.kw.trans (Kw.below h)) hn) (keep h (hH2.blk (i := 0) rfl)) ih)) (run_call2 call52 rfl rfl) <| fun w4 hH5 => va (v := .string _) rfl <| RL.nil <| CW.ret <| outP1 Tryd.results39 ?_ hH5.below
 exact congrArg S (kids_commas n)
theorem s_text (n : NodeR) (htx : TxN n.nd) (w : World) (hn : NodeV (Kw w) n) (ih : ∀ x ∈ n.kids, TxN x.nd → ∀ w, NodeV (Kw w) x → Calls Tryd.prog 30 #[.agg (nodeL x).toArray] w (Pure (S (textF x.nd)) w)) : Calls Tryd.prog 30 #[.agg (nodeL n).toArray] w (Pure (S (textF n.nd)) w) := by
 have hm1 := hn.kids_.small
 have hm2 := hn.names_.small
 unfold maxLen at hm1 hm2
 have hkd := htx.kind
 rw [nd_kind] at hkd
 refine enter Tryd.func30 rfl Tryd.ntmps30 rfl <| have hH := Hp.start w; SR <| RL.new rfl hH (f := fun b => (.pointer (some ⟨b, 0, none⟩))) (run_box (v := .agg _) rfl) <| fun b3 w1 hH2 => va (v := .string ⟨#[]⟩) rfl <| RL.nil <| CW.seq <| SR <| V (fA underlying77 0 rfl sizeOf3 rfl) <| V (run_ld underlying3 rfl rfl (hH2.cell (i := 0) rfl (v := I _) rfl)) <| RL.nil <| CW.block <| CW.seq <| SR <| V (run_eql rfl rfl) <| aB rfl <| RL.nil <| CW.condP rfl (fun h5 => ?_) (fun h5 => ?_)
 ·refine CW.skip <| CW.condT (bT h5) <| SR <| V (fA underlying77 2 rfl sizeOf9 rfl) <| V (run_ld underlying9 rfl rfl (hH2.cell (i := 0) rfl (v := .string _) rfl)) <| va (v := .string _) rfl <| RL.nil <| CW.ret <| outP1 Tryd.results30 ?_ hH2.below
  (refine congrArg S ?_; ((rw [text_eq, nd_kind, if_pos (.inl ‹n.kind = 1›), nd_text]; done)))
 ·refine CW.region <| V (run_eql rfl rfl) <| aB rfl <| RL.nil <| CW.condP rfl (fun h7 => ?_) (fun h7 => ?_)
  ·refine SR <| V (fA underlying77 2 rfl sizeOf9 rfl) <| V (run_ld underlying9 rfl rfl (hH2.cell (i := 0) rfl (v := .string _) rfl)) <| va (v := .string _) rfl <| RL.nil <| CW.ret <| outP1 Tryd.results30 ?_ hH2.below
   (refine congrArg S ?_; ((rw [text_eq, nd_kind, if_pos (.inr ‹n.kind = 2›), nd_text]; done)))
  ·refine SR <| V (run_eql rfl rfl) <| aB rfl <| RL.nil <| CW.condP rfl (fun h9 => ?_) (fun h9 => ?_)
   ·refine SR <| V (run_ldA (cs := nodeL _) underlying77 rfl rfl rfl (rangeAt_cells (hH2.blk (i := 0) rfl))) <| RL.callP rfl hH2 (c_term_names n htx _ (NodeV.mono hH2.kw hn)) (run_call1 call38 rfl) <| fun w10 hH11 => V (run_addS rfl rfl (by have ha := htx.nmT; have hb := htx.kdT; have hc := htx.txT; rw [nd_text] at hc; (try simp only [tx_size_app]); (try simp only [tsz1, tsz2]); omega)) <| V (run_addS rfl rfl (by have ha := htx.nmT; have hb := htx.kdT; have hc := htx.txT; rw [nd_text] at hc; (try simp only [tx_size_app]); (try simp only [tsz1, tsz2]); omega)) <| va (v := .string _) rfl <| RL.nil <| CW.ret <| outP1 Tryd.results30 ?_ hH11.below
    (refine congrArg S ?_; ((rw [text_eq, nd_kind, if_neg (by omega), if_pos ‹n.kind = 3›]; rfl)))
   ·refine SR <| V (run_eql rfl rfl) <| aB rfl <| RL.nil <| CW.condP rfl (fun h13 => ?_) (fun h13 => ?_)
    ·refine SR <| V (run_ldA (cs := nodeL _) underlying77 rfl rfl rfl (rangeAt_cells (hH2.blk (i := 0) rfl))) <| RL.callP rfl hH2 (c_term_kids n htx _ (NodeV.mono hH2.kw hn) ih) (run_call1 call39 rfl) <| fun w14 hH15 => V (run_addS rfl rfl (by have ha := htx.nmT; have hb := htx.kdT; have hc := htx.txT; rw [nd_text] at hc; (try simp only [tx_size_app]); (try simp only [tsz1, tsz2]); omega)) <| V (run_addS rfl rfl (by have ha := htx.nmT; have hb := htx.kdT; have hc := htx.txT; rw [nd_text] at hc; (try simp only [tx_size_app]); (try simp only [tsz1, tsz2]); omega)) <| va (v := .string _) rfl <| RL.nil <| CW.ret <| outP1 Tryd.results30 ?_ hH15.below
     (refine congrArg S ?_; ((rw [text_eq, nd_kind, if_neg (by omega), if_neg (by omega), if_pos ‹n.kind = 4›]; rfl)))
    ·refine SR <| V (run_eql rfl rfl) <| aB rfl <| RL.nil <| CW.condP rfl (fun h17 => ?_) (fun h17 => ?_)
     ·refine SR <| V (run_ldA (cs := nodeL _) underlying77 rfl rfl rfl (rangeAt_cells (hH2.blk (i := 0) rfl))) <| RL.callP rfl hH2 (c_term_kids n htx _ (NodeV.mono hH2.kw hn) ih) (run_call1 call39 rfl) <| fun w18 hH19 => V (run_addS rfl rfl (by have ha := htx.nmT; have hb := htx.kdT; have hc := htx.txT; rw [nd_text] at hc; (try simp only [tx_size_app]); (try simp only [tsz1, tsz2]); omega)) <| V (run_addS rfl rfl (by have ha := htx.nmT; have hb := htx.kdT; have hc := htx.txT; rw [nd_text] at hc; (try simp only [tx_size_app]); (try simp only [tsz1, tsz2]); omega)) <| va (v := .string _) rfl <| RL.nil <| CW.ret <| outP1 Tryd.results30 ?_ hH19.below
      (refine congrArg S ?_; ((rw [text_eq, nd_kind, if_neg (by omega), if_neg (by omega), if_neg (by omega), if_pos ‹n.kind = 5›]; rfl)))
     ·refine SR <| V (run_eql rfl rfl) <| aB rfl <| RL.nil <| CW.condP rfl (fun h21 => ?_) (fun h21 => ?_)
      ·refine CW.seq <| CW.regionD (by kernel_rfl) hH2 <| fun w22 hH23 => have zh23 := hH23.sub sR; AQ 0 rfl zh23 (fA underlying77 2 rfl sizeOf9 rfl) <| AT 1 rfl zh23 (fun w hS => run_ld underlying9 rfl rfl (hS.cell (i := 0) rfl (v := .string _) rfl)) <| AQ 2 rfl zh23 (run_addS rfl rfl (by have ha := htx.nmT; have hb := htx.kdT; have hc := htx.txT; rw [nd_text] at hc; (try simp only [tx_size_app]); (try simp only [tsz1, tsz2]); omega)) <| AT 3 rfl zh23 (fun w hS => run_ldA (cs := nodeL _) underlying77 rfl rfl rfl (rangeAt_cells (hS.blk (i := 0) rfl))) <| A1 4 <| AO.callP rfl gnone rfl hH23 sR (c_term_names n htx _ (NodeV.mono hH23.kw hn)) (run_call1 call38 rfl) <| fun w24 hH25 => have zh25 := hH25.sub sR; AQ 5 rfl zh25 (run_addS rfl rfl (by have ha := htx.nmT; have hb := htx.kdT; have hc := htx.txT; rw [nd_text] at hc; (try simp only [tx_size_app]); (try simp only [tsz1, tsz2]); omega)) <| AQ 6 rfl zh25 (run_addS rfl rfl (by have ha := htx.nmT; have hb := htx.kdT; have hc := htx.txT; rw [nd_text] at hc; (try simp only [tx_size_app]); (try simp only [tsz1, tsz2]); omega)) <| AQ 7 rfl zh25 (aV (.string _) rfl) <| AD <| CW.ret <| outP1 Tryd.results30 ?_ hH25.below
       (refine congrArg S ?_; ((rw [text_eq, nd_kind, if_neg (by omega), if_neg (by omega), if_neg (by omega), if_neg (by omega), if_pos ‹n.kind = 6›, nd_text]; rfl)))
      ·refine SR <| V (run_eql rfl rfl) <| aB rfl <| RL.nil <| CW.condF (bF ((by omega))) <| SR <| V (run_eql rfl rfl) <| aB rfl <| RL.nil <| CW.condF (bF ((by omega))) <| SR <| V (run_eql rfl rfl) <| aB rfl <| RL.nil <| CW.condF (bF ((by omega))) <| SR <| V (run_eql rfl rfl) <| aB rfl <| RL.nil <| CW.condF (bF ((by omega))) <| SR <| V (run_eql rfl rfl) <| aB rfl <| RL.nil <| CW.condF (bF ((by omega))) <| CW.skip <| SR <| va (v := .string ⟨#[]⟩) rfl <| RL.nil <| CW.ret <| outP1 Tryd.results30 ?_ hH2.below
       (refine congrArg S ?_; (rw [text_eq, nd_kind, if_neg (by omega), if_neg (by omega), if_neg (by omega), if_neg (by omega), if_neg (by omega)]))
theorem c_term_Text (n : NodeR) : TxN n.nd → ∀ w, NodeV (Kw w) n → Calls Tryd.prog 30 #[.agg (nodeL n).toArray] w (Pure (S (textF n.nd)) w) := node_ind (C := fun n => TxN n.nd → ∀ w, NodeV (Kw w) n → Calls Tryd.prog 30 #[.agg (nodeL n).toArray] w (Pure (S (textF n.nd)) w)) (fun n ih htx w hn => s_text n htx w hn ih) n
theorem c_spell_Text (s : Shp) (e : El) (w : World) (hs : ShpV (Kw w) s) (hT : Tab w) : Calls Tryd.prog 18 #[.agg (shpC s), .agg (elC e)] w (Pure (S (spellF s.sh e)) w) := by
 refine enter Tryd.func18 rfl Tryd.ntmps18 rfl <| have hH := Hp.start w; SR <| RL.new rfl hH (f := fun b => (.pointer (some ⟨b, 0, none⟩))) (run_box (v := .agg _) rfl) <| fun b3 w1 hH2 => RL.new rfl hH2 (f := fun b => (.pointer (some ⟨b, 0, none⟩))) (run_box (v := .agg _) rfl) <| fun b6 w4 hH5 => va (v := .string ⟨#[]⟩) rfl <| RL.nil <| SR <| V (run_ldA (cs := [B _, _]) underlying47 rfl rfl rfl (rangeAt_cells (hH5.blk (i := 1) rfl))) <| V (run_ldEl underlying25 rfl rfl rfl (hH5.blk (i := 0) rfl)) <| RL.callF rfl hH5 (c_spell_Node (Kw w) s e _ hH5.kw hs (hT.hp hH5)) (run_call2 call31 rfl rfl) <| fun v9 w10 Z12 hH11 hp13 => have hH14 : Hp _ w10 (_ :: _ :: Z12) := hH11.zin0 (L := [_, _]); ?_
 obtain ⟨n15, rfl, nd16, nv17⟩ := hp13
 refine RL.callP rfl hH14 (c_term_Text n15 (by rw [nd16]; exact node_tx _ _) _ (NodeV.mono (hH14.kz (Le.refl _) (fun x hx => (mT (mT hx)))) nv17)) (run_call1 call30 rfl) <| fun w18 hH19 => V (run_addS rfl rfl (by rw [nd16]; have hq := (node_tx s.sh e).text; (try simp only [tx_size_app]); (try simp only [tsz1, tsz2, *]); omega)) <| va (v := .string _) rfl <| RL.nil <| CW.ret <| outP1 Tryd.results18 ?_ hH19.below
 (rw [nd16]; rfl)
theorem c_assign_place (v : Value) (l : List ValR) (f : Tx) (w : World) (hs : Sl w v 9 l.length (l.flatMap valL)) : Calls Tryd.prog 15 #[v, S f] w (Pure (I (vfind l f)) w) := by
 have hm := hs.small
 unfold maxLen at hm
 refine enter Tryd.func15 rfl Tryd.ntmps15 rfl <| have hH := Hp.start w; SR <| va (v := I 0) rfl <| RL.nil <| CW.seq <| SR <| ?_
 refine V (run_move (by conv => lhs; whnf)) ?_
 refine V (run_lenSl (hs.hp hH) rfl underlying22 rfl) <| vm (v := I 0) rfl <| RL.nil <| CW.block <| CW.loop (G := Int) (fun k s' w' => (Fr (4 :: 5 :: (rg 8 12 [])) _ s') ∧ (Hp w w' _) ∧ (s' 8 = I k) ∧ (0 ≤ k) ∧ (k ≤ l.length) ∧ (∀ j : Int, 0 ≤ j → j < k → decide ((l.getD j.toNat val0).name = f) = false)) (fun k => (l.length - k).toNat) (0) ⟨Fr.refl _ _, hH, rfl, (by omega), (by omega), fun j a b => absurd b (by omega)⟩ <| ?_
 rintro k sg1 w1 ⟨fr1, hH1, e8_1, h0, hk, hg⟩
 have e0_1 := (fr1 0 rfl).trans (by conv => lhs; whnf)
 have e1_1 := fr1.ss 1 rfl rfl
 have e7_1 := fr1.ii 7 rfl rfl
 refine SR <| V (run_lss e8_1 e7_1) <| RL.nil <| CW.seq <| CW.condP rfl (fun h3 => ?_) (fun h3 => ?_)
 ·refine CW.skip <| CW.seq <| CW.block <| SR <| vm e8_1 <| aI rfl <| RL.nil <| SR <| vm e0_1 <| mI rfl <| V (run_indexAddrS (hs.hp hH1) underlying22 sizeOf27 rfl rfl (by omega)) <| V (fA underlying27 0 rfl sizeOf9 rfl) <| V (run_ldE1 (dv := val0) (off := 0) valL_len (hs.hp hH1) underlying9 rfl rfl (by omega) rfl) <| vm e1_1 <| V (run_eqlS rfl rfl) <| RL.nil <| CW.condP rfl (fun h5 => ?_) (fun h5 => ?_)
  ·refine SR <| mI rfl <| aI rfl <| RL.nil <| CW.ret <| outP1 Tryd.results15 (congrArg I ?_) hH1.below
   exact (find_yes h0 ‹_› (decide_eq_true ‹_›) hg).symm
  ·refine CW.skip <| CW.region <| V (run_add e8_1 rfl (by omega)) <| mI rfl <| RL.nil <| ?_
   refine ⟨k + 1, ?_, fr1.u4.u4.u4, hH1, (congrArg I (by rfl)), ?_, ?_, ?_⟩
   ·((try dsimp only); omega)
   ·omega
   ·omega
   ·exact fun j a b => if e : j = k then e ▸ decide_eq_false ‹_› else hg j a (by omega)
 ·refine CW.exit (id := 0) rfl <| SR <| va (v := I (-1)) rfl <| RL.nil <| CW.ret <| outP1 Tryd.results15 (congrArg I ?_) hH1.below
  exact (find_no fun j a b => hg j a (by omega)).symm
theorem c_assign_Get (v : Value) (l : List ValR) (f : Tx) (w : World) (hs : Sl w v 9 l.length (l.flatMap valL)) : Calls Tryd.prog 6 #[v, S f] w (Pure (.tuple #[.agg (elC (getF l f).1), B (getF l f).2]) w) := by
 have hm := hs.small
 unfold maxLen at hm
 have hvi := @vfind_in l f
 refine enter Tryd.func6 rfl Tryd.ntmps6 rfl <| have hH := Hp.start w; SR <| RL.new rfl hH (f := fun b => (.pointer (some ⟨b, 0, none⟩))) (run_alloc zero_el) <| fun b3 w1 hH2 => va (v := B false) rfl <| RL.nil <| SR <| ?_
 refine V (run_move (by conv => lhs; whnf)) ?_
 refine vm (v := .string _) rfl <| RL.callP rfl hH2 (c_assign_place _ _ _  _ (hs.hp hH2)) (run_call2 call15 rfl rfl) <| fun w4 hH5 => aI rfl <| RL.nil <| CW.seq <| SR <| mI rfl <| V (run_lss rfl rfl) <| RL.nil <| CW.condP rfl (fun h7 => ?_) (fun h7 => ?_)
 ·refine SR <| V (run_bld (vs := []) rfl (built_el0)) <| RL.set hH5 (i := 0) rfl (run_stEl rfl rfl rfl (hH5.blk (i := 0) rfl)) <| fun w8 hH9 => ?_
  simp only [z2] at hH9
  refine va (v := B false) rfl <| RL.nil <| CW.ret <| outCT Tryd.results6 rfl rfl hH9 (i := 0) rfl underlying25 rfl (by rw [elC_size]; rfl) ⟨?_, hH9.below⟩
  exact get_tn ‹_›
 ·refine CW.skip <| SR <| ?_
  refine V (run_move (by conv => lhs; whnf)) ?_
  refine mI rfl <| V (run_indexAddrS (hs.hp hH5) underlying22 sizeOf27 rfl rfl (by (have := hvi ‹_›; omega))) <| V (fA underlying27 1 rfl sizeOf25 rfl) <| V (run_ldVE (hs.hp hH5) underlying25 rfl rfl rfl (by (have := hvi ‹_›; omega))) <| RL.set hH5 (i := 0) rfl (run_stEl rfl rfl rfl (hH5.blk (i := 0) rfl)) <| fun w10 hH11 => ?_
  simp only [z2] at hH11
  refine va (v := B true) rfl <| RL.nil <| CW.ret <| outCT Tryd.results6 rfl rfl hH11 (i := 0) rfl underlying25 rfl (by rw [elC_size]; rfl) ⟨?_, hH11.below⟩
  exact get_ty ‹_›
theorem c_clearanceref18_Get (v : Value) (l : List ValR) (f : Tx) (w : World) (hs : Sl w v 9 l.length (l.flatMap valL)) : Calls Tryd.prog 7 #[v, S f] w (Pure (.tuple #[.agg (elC (getF l f).1), B (getF l f).2]) w) := by
 have hm := hs.small
 unfold maxLen at hm
 refine enter Tryd.func7 rfl Tryd.ntmps7 rfl <| have hH := Hp.start w; SR <| RL.new rfl hH (f := fun b => (.pointer (some ⟨b, 0, none⟩))) (run_alloc zero_el) <| fun b3 w1 hH2 => va (v := B false) rfl <| RL.nil <| CW.seq <| SR <| va (v := I 0) rfl <| RL.nil <| CW.block <| CW.loop (G := Int) (fun k s' w' => (Fr (rg 5 20 []) _ s') ∧ (Hp w w' _) ∧ (s' 6 = I k) ∧ (0 ≤ k) ∧ (k ≤ l.length) ∧ (∀ j : Int, 0 ≤ j → j < k → decide ((l.getD j.toNat val0).name = f) = false)) (fun k => (l.length - k).toNat) (0) ⟨Fr.refl _ _, hH2, rfl, (by omega), (by omega), fun j a b => absurd b (by omega)⟩ <| ?_
 rintro k sg4 w4 ⟨fr4, hH4, e6_4, h0, hk, hg⟩
 have e0_4 := (fr4 0 rfl).trans (by conv => lhs; whnf)
 have e1_4 := fr4.ss 1 rfl rfl
 have e4_4 := fr4.pp 4 rfl rfl
 refine CW.seq <| SR <| vm e6_4 <| vm e0_4 <| V (run_lenSl (hs.hp hH4) rfl underlying22 rfl) <| V (run_lss rfl rfl) <| RL.nil <| CW.condP rfl (fun h6 => ?_) (fun h6 => ?_)
 ·refine CW.skip <| CW.seq <| CW.block <| SR <| vm e0_4 <| vm e6_4 <| V (run_indexAddrS (hs.hp hH4) underlying22 sizeOf27 rfl rfl (by omega)) <| V (fA underlying27 0 rfl sizeOf9 rfl) <| V (run_ldE1 (dv := val0) (off := 0) valL_len (hs.hp hH4) underlying9 rfl rfl (by omega) rfl) <| vm e1_4 <| V (run_eqlS rfl rfl) <| RL.nil <| CW.condP rfl (fun h8 => ?_) (fun h8 => ?_)
  ·refine SR <| vm e0_4 <| vm e6_4 <| V (run_indexAddrS (hs.hp hH4) underlying22 sizeOf27 rfl rfl (by omega)) <| V (fA underlying27 1 rfl sizeOf25 rfl) <| V (run_ldVE (hs.hp hH4) underlying25 rfl rfl rfl (by omega)) <| RL.set hH4 (i := 0) rfl (run_stEl rfl e4_4 rfl (hH4.blk (i := 0) rfl)) <| fun w9 hH10 => ?_
   simp only [z2] at hH10
   refine va (v := B true) rfl <| RL.nil <| CW.ret <| outCT Tryd.results7 e4_4 rfl hH10 (i := 0) rfl underlying25 rfl (by rw [elC_size]; rfl) ⟨?_, hH10.below⟩
   exact get_tk h0 (find_yes h0 ‹k < _› (decide_eq_true ‹_›) hg)
  ·refine CW.skip <| CW.region <| vm e6_4 <| V (run_add rfl rfl (by omega)) <| aI rfl <| RL.nil <| ?_
   refine ⟨k + 1, ?_, fr4.u4.u4.u4.u1.u1, hH4, (congrArg I (by rfl)), ?_, ?_, ?_⟩
   ·((try dsimp only); omega)
   ·omega
   ·omega
   ·exact fun j a b => if e : j = k then e ▸ decide_eq_false ‹_› else hg j a (by omega)
 ·refine CW.exit (id := 0) rfl <| SR <| V (run_bld (vs := []) rfl (built_el0)) <| RL.set hH4 (i := 0) rfl (run_stEl rfl e4_4 rfl (hH4.blk (i := 0) rfl)) <| fun w11 hH12 => ?_
  simp only [z2] at hH12
  refine va (v := B false) rfl <| RL.nil <| CW.ret <| outCT Tryd.results7 e4_4 rfl hH12 (i := 0) rfl underlying25 rfl (by rw [elC_size]; rfl) ⟨?_, hH12.below⟩
  exact get_tn (by rw [vfind, find_no fun j a b => hg j a (by omega)]; decide)
theorem c_name_Less (a b : Tx) (w : World) : Calls Tryd.prog 16 #[S a, S b] w (Pure (B (lessT a b)) w) := by
 refine enter Tryd.func16 rfl Tryd.ntmps16 rfl <| have hH := Hp.start w; SR <| va (v := B false) rfl <| RL.nil <| SR <| vm (v := .string _) rfl <| vm (v := .string _) rfl <| V (run_lssS rfl rfl) <| aB rfl <| RL.nil <| CW.ret <| outP1 Tryd.results16 (congrArg B ?_) hH.below
 rfl
theorem c_clearanceref02_Less (a b : Tx) (hsz : a.size ≤ 1000 ∨ b.size ≤ 1000) (w : World) : Calls Tryd.prog 17 #[S a, S b] w (Pure (B (lessT a b)) w) := by
 refine enter Tryd.func17 rfl Tryd.ntmps17 rfl <| have hH := Hp.start w; SR <| va (v := B false) rfl <| RL.nil <| CW.seq <| SR <| va (v := I 0) rfl <| RL.nil <| CW.block <| CW.loop (G := Int) (fun k s' w' => (Fr (rg 4 28 []) _ s') ∧ (Hp w w' _) ∧ (s' 5 = I k) ∧ (0 ≤ k) ∧ (k ≤ a.size) ∧ (k ≤ b.size) ∧ (∀ j : Int, 0 ≤ j → j < k → byteAt a j = byteAt b j)) (fun k => (a.size - k).toNat) (0) ⟨Fr.refl _ _, hH, rfl, (by omega), (by omega), (by omega), fun j a b => absurd b (by omega)⟩ <| ?_
 rintro k sg1 w1 ⟨fr1, hH1, e5_1, h0, hk1, hk2, hg⟩
 have e0_1 := fr1.ss 0 rfl rfl
 have e1_1 := fr1.ss 1 rfl rfl
 refine CW.seq <| SR <| vm e5_1 <| vm e0_1 <| V (run_lenStr rfl underlying9 rfl) <| V (run_lss rfl rfl) <| mB rfl <| RL.splitP (dj := 10) rfl (fun h3 => ?_) (fun h3 => ?_)
 ·refine gT rfl (bT h3) <| vm e5_1 <| gT rfl (bT h3) <| vm e1_1 <| gT rfl (bT h3) <| V (run_lenStr rfl underlying9 rfl) <| gT rfl (bT h3) <| V (run_lss rfl rfl) <| V (run_pickT (bT h3) (v := B _) rfl) <| RL.nil <| CW.condP rfl (fun h5 => ?_) (fun h5 => ?_)
  ·refine CW.skip <| CW.seq <| CW.block <| CW.seq <| CW.regionD (by kernel_rfl) hH1 <| fun w6 hH7 => have zh7 := hH7.sub sR; AQ 0 rfl zh7 (run_move e0_1) <| AQ 1 rfl zh7 (run_move e5_1) <| AQ 2 rfl zh7 (run_idxS underlying9 rfl rfl (by omega)) <| AQ 3 rfl zh7 (run_move e1_1) <| AQ 4 rfl zh7 (run_move e5_1) <| AQ 5 rfl zh7 (run_idxS underlying9 rfl rfl (by omega)) <| AQ 6 rfl zh7 (run_neq rfl rfl) <| AD <| CW.condP rfl (fun h9 => ?_) (fun h9 => ?_)
   ·refine CW.seq <| CW.regionD (by kernel_rfl) hH7 <| fun w10 hH11 => have zh11 := hH11.sub sR; AQ 0 rfl zh11 (run_move e0_1) <| AQ 1 rfl zh11 (run_move e5_1) <| AQ 2 rfl zh11 (run_idxS underlying9 rfl rfl (by omega)) <| AQ 3 rfl zh11 (run_move e1_1) <| AQ 4 rfl zh11 (run_move e5_1) <| AQ 5 rfl zh11 (run_idxS underlying9 rfl rfl (by omega)) <| AQ 6 rfl zh11 (run_lss rfl rfl) <| AQ 7 rfl zh11 (aV (B _) rfl) <| AD <| CW.ret <| outP1 Tryd.results17 (congrArg B ?_) hH11.below
    exact less_at h0 (by omega) (by omega) hg ‹_›
   ·refine CW.skip <| CW.region <| vm e5_1 <| V (run_add rfl rfl (by omega)) <| aI rfl <| RL.nil <| ?_
    refine ⟨k + 1, ?_, fr1.u4.u4.u4.u4.u4, hH7, (congrArg I (by rfl)), ?_, ?_, ?_, ?_⟩
    ·((try dsimp only); omega)
    ·omega
    ·omega
    ·omega
    ·exact fun j u v => if e : j = k then e ▸ (by omega) else hg j u (by omega)
  ·refine CW.exit (id := 0) rfl <| SR <| vm e0_1 <| V (run_lenStr rfl underlying9 rfl) <| vm e1_1 <| V (run_lenStr rfl underlying9 rfl) <| V (run_lss rfl rfl) <| aB rfl <| RL.nil <| CW.ret <| outP1 Tryd.results17 (congrArg B ?_) hH1.below
   exact less_end h0 hk1 hk2 hg (by omega)
 ·refine gF rfl (bF h3) <| gF rfl (bF h3) <| gF rfl (bF h3) <| gF rfl (bF h3) <| V (run_pickF (bF h3) (v := B false) rfl) <| RL.nil <| CW.condF rfl <| CW.exit (id := 0) rfl <| SR <| vm e0_1 <| V (run_lenStr rfl underlying9 rfl) <| vm e1_1 <| V (run_lenStr rfl underlying9 rfl) <| V (run_lss rfl rfl) <| aB rfl <| RL.nil <| CW.ret <| outP1 Tryd.results17 (congrArg B ?_) hH1.below
  exact less_end h0 hk1 hk2 hg (by omega)
theorem c_assign_ordered (v : Value) (l : List ValR) (w : World) (hs : Sl w v 9 l.length (l.flatMap valL)) : Calls Tryd.prog 22 #[v] w (Pure (B (orderedF l)) w) := by
 have hm := hs.small
 unfold maxLen at hm
 refine enter Tryd.func22 rfl Tryd.ntmps22 rfl <| have hH := Hp.start w; SR <| va (v := B false) rfl <| RL.nil <| CW.seq <| SR <| ?_
 refine V (run_move (by conv => lhs; whnf)) ?_
 refine V (run_lenSl (hs.hp hH) rfl underlying22 rfl) <| vm (v := I 0) rfl <| RL.nil <| CW.block <| CW.loop (G := Int) (fun k s' w' => (Fr (rg 2 3 (rg 7 26 [])) _ s') ∧ (Hp w w' _) ∧ (s' 7 = I k) ∧ (0 ≤ k) ∧ (k ≤ l.length) ∧ (∀ j : Int, 0 ≤ j → j < k → (nameR (l.getD j.toNat val0).name && (decide (j ≤ 0) || lessT (l.getD (j - 1).toNat val0).name (l.getD j.toNat val0).name)) = true)) (fun k => (l.length - k).toNat) (0) ⟨Fr.refl _ _, hH, rfl, (by omega), (by omega), fun j a b => absurd b (by omega)⟩ <| ?_
 rintro k sg1 w1 ⟨fr1, hH1, e7_1, h0, hk, hg⟩
 have e0_1 := (fr1 0 rfl).trans (by conv => lhs; whnf)
 have e5_1 := (fr1 5 rfl).trans (by conv => lhs; whnf)
 have e6_1 := fr1.ii 6 rfl rfl
 refine SR <| V (run_lss e7_1 e6_1) <| RL.nil <| CW.seq <| CW.condP rfl (fun h3 => ?_) (fun h3 => ?_)
 ·refine CW.skip <| CW.seq <| CW.block <| SR <| vm e7_1 <| V (run_indexAddrS (hs.hp hH1) underlying22 sizeOf27 e5_1 e7_1 (by omega)) <| V (run_ldE (dv := val0) valL_len (hs.hp hH1) underlying27 rfl rfl rfl (by omega)) <| RL.new rfl hH1 (f := fun b => (.pointer (some ⟨b, 0, none⟩))) (run_alloc zero_val) <| fun b6 w4 hH5 => aI rfl <| RL.set hH5 (i := 0) rfl (run_stW (c' := (valL _).toArray) rfl rfl rfl (valL_one _) (hH5.blk (i := 0) rfl) rfl) <| fun w7 hH8 => ?_
  simp only [z2] at hH8
  refine RL.nil <| CW.seq <| CW.regionD (by kernel_rfl) hH8 <| fun w9 hH10 => AQ 0 rfl (hH10.sub sR) (fA underlying27 0 rfl sizeOf9 rfl) <| AT 1 rfl (hH10.sub sR) (fun w hS => run_ld underlying9 rfl rfl (hS.cell (i := 0) rfl (v := .string _) rfl)) <| A1 2 <| AO.callP rfl gnone rfl hH10 sR (c_name_Right _  _) (run_call1 call34 rfl) <| fun w11 hH12 => have zh12 := hH12.sub sR; AQ 3 rfl zh12 (run_not rfl) <| AQ 4 rfl zh12 (mV (B _) rfl) <| AN.split (dj := 16) rfl (fun h15 => ?_) (fun h15 => ?_)
  ·refine AK 5 rfl rfl (bR (c := true) h15) (hH12.sub sR) <| AK 6 rfl rfl (bR (c := true) h15) (hH12.sub sR) <| AK 7 rfl rfl (bR (c := true) h15) (hH12.sub sR) <| AU 8 rfl rfl rfl (hH12.sub sR) <| AU 9 rfl rfl rfl (hH12.sub sR) <| AU 10 rfl rfl rfl (hH12.sub sR) <| AU 11 rfl rfl rfl (hH12.sub sR) <| AU 12 rfl rfl rfl (hH12.sub sR) <| AU 13 rfl rfl rfl (hH12.sub sR) <| AU 14 rfl rfl rfl (hH12.sub sR) <| AU 15 rfl rfl rfl (hH12.sub sR) <| AU 16 rfl rfl rfl (hH12.sub sR) <| AU 17 rfl rfl rfl (hH12.sub sR) <| AK 18 rfl rfl (bR (c := true) h15) (hH12.sub sR) <| AQ 19 rfl zh12 (run_pickT (bR (c := true) h15) (v := B true) rfl) <| AD <| CW.condT rfl <| SR <| va (v := B false) rfl <| RL.nil <| CW.ret <| outP1 Tryd.results22 (congrArg B ?_) hH12.below
   exact (ordered_no1 h0 ‹k < _› (nt ‹(!nameR _) = true›)).symm
  ·refine AG 5 rfl rfl (bR (c := false) h15) (hH12.sub sR) (fun w hS => mV (I _) rfl) <| AG 6 rfl rfl (bR (c := false) h15) (hH12.sub sR) (fun w hS => run_gtr rfl rfl) <| AG 7 rfl rfl (bR (c := false) h15) (hH12.sub sR) (fun w hS => mV (B _) rfl) <| AN.splitP (dj := 19) rfl (fun h17 => ?_) (fun h17 => ?_)
   ·refine AG 8 rfl rfl (bT h17) (hH12.sub sR) (fun w hS => run_move e0_1) <| AG 9 rfl rfl (bT h17) (hH12.sub sR) (fun w hS => mV (I _) rfl) <| AG 10 rfl rfl (bT h17) (hH12.sub sR) (fun w hS => run_sub rfl rfl (by omega)) <| AG 11 rfl rfl (bT h17) (hH12.sub sR) (fun w hS => run_indexAddrS (hs.hp hS) underlying22 sizeOf27 rfl rfl (by omega)) <| AG 12 rfl rfl (bT h17) (hH12.sub sR) (fun w hS => fA underlying27 0 rfl sizeOf9 rfl) <| AG 13 rfl rfl (bT h17) (hH12.sub sR) (fun w hS => run_ldE1 (dv := val0) (off := 0) valL_len (hs.hp hS) underlying9 rfl rfl (by omega) rfl) <| AG 14 rfl rfl (bT h17) (hH12.sub sR) (fun w hS => fA underlying27 0 rfl sizeOf9 rfl) <| AG 15 rfl rfl (bT h17) (hH12.sub sR) (fun w hS => run_ld underlying9 rfl rfl (hS.cell (i := 0) rfl (v := .string _) rfl)) <| A1 16 <| AO.callP rfl (gsome rfl (bT h17)) rfl hH12 sR (c_name_Less _ _  _) (run_call2 call16 rfl rfl) <| fun w18 hH19 => AG 17 rfl rfl (bT h17) (hH19.sub sR) (fun w hS => run_not rfl) <| AG 18 rfl rfl (bR (c := false) h15) (hH19.sub sR) (fun w hS => run_pickT (bT h17) (v := B _) rfl) <| have zh19 := hH19.sub sR; AQ 19 rfl zh19 (run_pickF (bR (c := false) h15) (v := B _) rfl) <| AD <| CW.cond rfl (fun h22 => ?_) (fun h22 => ?_)
    ·refine SR <| va (v := B false) rfl <| RL.nil <| CW.ret <| outP1 Tryd.results22 (congrArg B ?_) hH19.below
     exact (ordered_no2 h0 ‹k < _› ‹0 < k› (nt ‹(!lessT _ _) = true›)).symm
    ·refine CW.skip <| CW.region <| V (run_add e7_1 rfl (by omega)) <| mI rfl <| RL.nil <| ?_
     refine ⟨k + 1, ?_, fr1.u4.u4.u4.u4.u4.u4.u4, (hH19.sub (sQ sR)), (congrArg I (by rfl)), ?_, ?_, ?_⟩
     ·((try dsimp only); omega)
     ·omega
     ·omega
     ·exact fun j a b => if e : j = k then e ▸ (by exact ord_y2 (nf ‹(!nameR _) = false›) (nf ‹(!lessT _ _) = false›)) else hg j a (by omega)
   ·refine AK 8 rfl rfl (bF h17) (hH12.sub sR) <| AK 9 rfl rfl (bF h17) (hH12.sub sR) <| AK 10 rfl rfl (bF h17) (hH12.sub sR) <| AK 11 rfl rfl (bF h17) (hH12.sub sR) <| AK 12 rfl rfl (bF h17) (hH12.sub sR) <| AK 13 rfl rfl (bF h17) (hH12.sub sR) <| AK 14 rfl rfl (bF h17) (hH12.sub sR) <| AK 15 rfl rfl (bF h17) (hH12.sub sR) <| AK 16 rfl rfl (bF h17) (hH12.sub sR) <| AK 17 rfl rfl (bF h17) (hH12.sub sR) <| AG 18 rfl rfl (bR (c := false) h15) (hH12.sub sR) (fun w hS => run_pickF (bF h17) (v := B false) rfl) <| AQ 19 rfl zh12 (run_pickF (bR (c := false) h15) (v := B _) rfl) <| AD <| CW.condF rfl <| CW.skip <| CW.region <| V (run_add e7_1 rfl (by omega)) <| mI rfl <| RL.nil <| ?_
    refine ⟨k + 1, ?_, fr1.u4.u4.u4.u4.u4.u4.u4, (hH12.sub (sQ sR)), (congrArg I (by rfl)), ?_, ?_, ?_⟩
    ·((try dsimp only); omega)
    ·omega
    ·omega
    ·exact fun j a b => if e : j = k then e ▸ (by exact ord_y1 (nf ‹_›) ‹¬ 0 < k›) else hg j a (by omega)
 ·refine CW.exit (id := 0) rfl <| SR <| va (v := B true) rfl <| RL.nil <| CW.ret <| outP1 Tryd.results22 (congrArg B ?_) hH1.below
  exact (ordered_yes ‹¬ k < _› hg).symm
theorem c_assign_fits (s : Shp) (v : Value) (l : List ValR) (w : World) (hs : Sl w v 9 l.length (l.flatMap valL)) (hsh : ShpV (Kw w) s) (hT : Tab w) : Calls Tryd.prog 23 #[.agg (shpC s), v] w (Pure (B (fitsF s.sh l)) w) := by
 have hm := hs.small
 unfold maxLen at hm
 refine enter Tryd.func23 rfl Tryd.ntmps23 rfl <| have hH := Hp.start w; SR <| RL.new rfl hH (f := fun b => (.pointer (some ⟨b, 0, none⟩))) (run_box (v := .agg _) rfl) <| fun b3 w1 hH2 => va (v := B false) rfl <| RL.nil <| CW.seq <| SR <| ?_
 refine V (run_move (by conv => lhs; whnf)) ?_
 refine V (run_lenSl (hs.hp hH2) rfl underlying22 rfl) <| vm (v := I 0) rfl <| RL.nil <| CW.block <| CW.loop (G := Int) (fun k s' w' => (Fr (4 :: (6 :: (rg 9 10 []))) _ s') ∧ (Hp w w' _) ∧ (s' 9 = I k) ∧ (0 ≤ k) ∧ (k ≤ l.length) ∧ (∀ j : Int, 0 ≤ j → j < k → fitsS s.sh (l.getD j.toNat val0).el = true)) (fun k => (l.length - k).toNat) (0) ⟨Fr.refl _ _, hH2, rfl, (by omega), (by omega), fun j a b => absurd b (by omega)⟩ <| ?_
 rintro k sg4 w4 ⟨fr4, hH4, e9_4, h0, hk, hg⟩
 have e2_4 := fr4.pp 2 rfl rfl
 have e7_4 := (fr4 7 rfl).trans (by conv => lhs; whnf)
 have e8_4 := fr4.ii 8 rfl rfl
 refine SR <| V (run_lss e9_4 e8_4) <| RL.nil <| CW.seq <| CW.condP rfl (fun h6 => ?_) (fun h6 => ?_)
 ·refine CW.skip <| CW.seq <| CW.block <| SR <| V (run_indexAddrS (hs.hp hH4) underlying22 sizeOf27 e7_4 e9_4 (by omega)) <| V (run_ldE (dv := val0) valL_len (hs.hp hH4) underlying27 rfl rfl rfl (by omega)) <| RL.new rfl hH4 (f := fun b => (.pointer (some ⟨b, 0, none⟩))) (run_alloc zero_val) <| fun b9 w7 hH8 => RL.set hH8 (i := 0) rfl (run_stW (c' := (valL _).toArray) rfl rfl rfl (valL_one _) (hH8.blk (i := 0) rfl) rfl) <| fun w10 hH11 => ?_
  simp only [z2] at hH11
  refine RL.nil <| SR <| V (run_ldA (cs := [B _, _]) underlying47 rfl rfl e2_4 (rangeAt_cells (hH11.blk (i := 1) rfl))) <| V (fA underlying27 1 rfl sizeOf25 rfl) <| V (run_ldVB underlying25 rfl rfl rfl (hH11.blk (i := 0) rfl)) <| RL.callP rfl hH11 (c_shape_Fits _ _  _ (hsh.mono hH11.kw) (hT.hp hH11)) (run_call2 call21 rfl rfl) <| fun w12 hH13 => V (run_not rfl) <| RL.nil <| CW.cond rfl (fun h16 => ?_) (fun h16 => ?_)
  ·refine SR <| va (v := B false) rfl <| RL.nil <| CW.ret <| outP1 Tryd.results23 (congrArg B ?_) hH13.below
   exact (fits_no h0 ‹k < _› (nt ‹_›)).symm
  ·refine CW.skip <| CW.region <| V (run_add e9_4 rfl (by omega)) <| mI rfl <| RL.nil <| ?_
   refine ⟨k + 1, ?_, fr4.u4.u4.u1.u1.u1, (hH13.sub (sQ sR)), (congrArg I (by rfl)), ?_, ?_, ?_⟩
   ·((try dsimp only); omega)
   ·omega
   ·omega
   ·exact fun j a b => if e : j = k then e ▸ nf ‹_› else hg j a (by omega)
 ·refine CW.exit (id := 0) rfl <| SR <| va (v := B true) rfl <| RL.nil <| CW.ret <| outP1 Tryd.results23 (congrArg B ?_) hH4.below
  exact (fits_all ‹¬ k < _› hg).symm
theorem c_assign_at_api_Elem (v : Value) (l : List El) (i : Int) (h0 : 0 ≤ i) (w : World) (hs : Sl w v 8 l.length (l.flatMap elL)) : Calls Tryd.prog 25 #[v, I i] w (Pure (.agg (elC (l.getD i.toNat el0))) w) := by
 have hm := hs.small
 unfold maxLen at hm
 refine enter Tryd.func25 rfl Tryd.ntmps25 rfl <| have hH := Hp.start w; SR <| RL.new rfl hH (f := fun b => (.pointer (some ⟨b, 0, none⟩))) (run_alloc zero_el) <| fun b3 w1 hH2 => RL.nil <| SR <| RL.new rfl hH2 (f := fun b => (.pointer (some ⟨b, 0, none⟩))) (run_alloc zero_el) <| fun b6 w4 hH5 => RL.nil <| CW.seq <| SR <| mI rfl <| V (run_lss rfl rfl) <| mB rfl <| RL.splitP (dj := 8) rfl (fun h8 => ?_) (fun h8 => ?_)
 ·refine gF rfl (bT h8) <| gF rfl (bT h8) <| gF rfl (bT h8) <| gF rfl (bT h8) <| V (run_pickT (bT h8) (v := B true) rfl) <| RL.nil <| CW.condT rfl <| SR <| V (run_ldEl underlying25 rfl rfl rfl (hH5.blk (i := 0) rfl)) <| RL.set hH5 (i := 1) rfl (run_stEl rfl rfl rfl (hH5.blk (i := 1) rfl)) <| fun w9 hH10 => ?_
  simp only [z2] at hH10
  refine RL.nil <| CW.ret <| outCg Tryd.results25 rfl hH10 (i := 1) rfl underlying25 rfl (by rw [elC_size]; rfl) ⟨?_, hH10.below⟩
  (rw [getD_out (by omega)]; done)
 ·refine gT rfl (bF h8) <| mI rfl <| gT rfl (bF h8) <| ?_
  refine V (run_move (by conv => lhs; whnf)) ?_
  refine gT rfl (bF h8) <| V (run_lenSl (hs.hp hH5) rfl underlying30 rfl) <| gT rfl (bF h8) <| V (run_geq rfl rfl) <| V (run_pickF (bF h8) (v := B _) rfl) <| RL.nil <| CW.condP rfl (fun h12 => ?_) (fun h12 => ?_)
  ·refine SR <| V (run_ldEl underlying25 rfl rfl rfl (hH5.blk (i := 0) rfl)) <| RL.set hH5 (i := 1) rfl (run_stEl rfl rfl rfl (hH5.blk (i := 1) rfl)) <| fun w13 hH14 => ?_
   simp only [z2] at hH14
   refine RL.nil <| CW.ret <| outCg Tryd.results25 rfl hH14 (i := 1) rfl underlying25 rfl (by rw [elC_size]; rfl) ⟨?_, hH14.below⟩
   (rw [getD_out (by omega)]; done)
  ·refine CW.skip <| SR <| ?_
   refine V (run_move (by conv => lhs; whnf)) ?_
   refine mI rfl <| V (run_indexAddrS (hs.hp hH5) underlying30 sizeOf25 rfl rfl (by omega)) <| V (run_ldElS (hs.hp hH5) underlying25 rfl rfl rfl (by omega)) <| RL.set hH5 (i := 1) rfl (run_stEl rfl rfl rfl (hH5.blk (i := 1) rfl)) <| fun w15 hH16 => ?_
   simp only [z2] at hH16
   refine RL.nil <| CW.ret <| outCg Tryd.results25 rfl hH16 (i := 1) rfl underlying25 rfl (by rw [elC_size]; rfl) ⟨?_, hH16.below⟩
   rfl
theorem c_assign_at_api_Value (v : Value) (l : List VrR) (i : Int) (h0 : 0 ≤ i) (w : World) (hs : Sl w v 1 l.length (rowsC l)) : Calls Tryd.prog 27 #[v, I i] w (Pure ((l.getD i.toNat vr0).v) w) := by
 have hm := hs.small
 unfold maxLen at hm
 refine enter Tryd.func27 rfl Tryd.ntmps27 rfl <| have hH := Hp.start w; SR <| va (v := .slice none 0 0) rfl <| RL.nil <| SR <| va (v := .slice none 0 0) rfl <| RL.nil <| CW.seq <| SR <| mI rfl <| V (run_lss rfl rfl) <| mB rfl <| RL.splitP (dj := 8) rfl (fun h2 => ?_) (fun h2 => ?_)
 ·refine gF rfl (bT h2) <| gF rfl (bT h2) <| gF rfl (bT h2) <| gF rfl (bT h2) <| V (run_pickT (bT h2) (v := B true) rfl) <| RL.nil <| CW.condT rfl <| SR <| ?_
  refine V (run_move (by conv => lhs; whnf)) ?_
  refine V (run_assign (by conv => lhs; whnf)) ?_
  refine RL.nil <| CW.ret <| outP1 Tryd.results27 ?_ hH.below
  (rw [getD_out (by omega)]; rfl)
 ·refine gT rfl (bF h2) <| mI rfl <| gT rfl (bF h2) <| ?_
  refine V (run_move (by conv => lhs; whnf)) ?_
  refine gT rfl (bF h2) <| V (run_lenSl (hs.hp hH) rfl underlying29 rfl) <| gT rfl (bF h2) <| V (run_geq rfl rfl) <| V (run_pickF (bF h2) (v := B _) rfl) <| RL.nil <| CW.condP rfl (fun h4 => ?_) (fun h4 => ?_)
  ·refine SR ?_
   refine V (run_move (by conv => lhs; whnf)) ?_
   refine V (run_assign (by conv => lhs; whnf)) ?_
   refine RL.nil <| CW.ret <| outP1 Tryd.results27 ?_ hH.below
   (rw [getD_out (by omega)]; rfl)
  ·refine CW.skip <| SR <| ?_
   refine V (run_move (by conv => lhs; whnf)) ?_
   refine mI rfl <| V (run_indexAddrS (hs.hp hH) underlying29 sizeOf22 rfl rfl (by omega)) <| V (run_ld underlying22 rfl rfl ((hs.hp hH).cell _ _ (rowsC_at (by omega)))) <| ?_
   refine V (run_assign (by conv => lhs; whnf)) ?_
   refine RL.nil <| CW.ret <| outP1 Tryd.results27 ?_ hH.below
   rfl
end Go.Proofs.YtieckcbckgalhaaDoor.W
