/-
  The walks of the functions that the laws of this seat reach, part 1: each returns what its plain counterpart tells, and turns nothing that was there.
-/
import Derived.Test.YtkdbiooamgnfmaaGreatDoorProg
import Derived.Test.YtkdbiooamgnfmaaGreatDoorEnv
import Derived.Test.YtkdbiooamgnfmaaGreatDoorPlain
import Derived.Test.YtkdbiooamgnfmaaGreatDoorBase
import Derived.Test.YtkdbiooamgnfmaaGreatDoorOrd
import Derived.Test.YtkdbiooamgnfmaaGreatDoorRel
import Derived.Test.YtkdbiooamgnfmaaGreatDoorClo
import Derived.Test.YtkdbiooamgnfmaaGreatDoorCov
import Derived.Test.YtkdbiooamgnfmaaGreatDoorArr
import Derived.Test.YtkdbiooamgnfmaaGreatDoorHas
import Derived.Test.YtkdbiooamgnfmaaGreatDoorGrd
import Derived.Test.YtkdbiooamgnfmaaGreatDoorStr
import Derived.Test.YtkdbiooamgnfmaaGreatDoorVu
import Derived.Test.YtkdbiooamgnfmaaGreatDoorShp
import Derived.Test.YtkdbiooamgnfmaaGreatDoorShl
import Derived.Test.YtkdbiooamgnfmaaGreatDoorShq
import Derived.Test.YtkdbiooamgnfmaaGreatDoorCut
import Derived.Test.YtkdbiooamgnfmaaGreatDoorRec
import Derived.Test.YtkdbiooamgnfmaaGreatDoorScp
import Derived.Test.YtkdbiooamgnfmaaGreatDoorNod
import Derived.Test.YtkdbiooamgnfmaaGreatDoorSpn
import Derived.Test.YtkdbiooamgnfmaaGreatDoorSpy
import Derived.Test.YtkdbiooamgnfmaaGreatDoorMk
import Derived.Test.YtkdbiooamgnfmaaGreatDoorAsn
import Derived.Test.YtkdbiooamgnfmaaGreatDoorAsr
import Derived.Test.YtkdbiooamgnfmaaGreatDoorAst
import Derived.Test.YtkdbiooamgnfmaaGreatDoorRgs
import Derived.Test.YtkdbiooamgnfmaaGreatDoorIns
import Derived.Test.YtkdbiooamgnfmaaGreatDoorCod
import Derived.Test.YtkdbiooamgnfmaaGreatDoorFit
import Derived.Test.YtkdbiooamgnfmaaGreatDoorRow
import Derived.Test.YtkdbiooamgnfmaaGreatDoorHol
import Derived.Test.YtkdbiooamgnfmaaGreatDoorGap
import Derived.Test.YtkdbiooamgnfmaaGreatDoorMap
import Derived.Test.YtkdbiooamgnfmaaGreatDoorExn
import Derived.Test.YtkdbiooamgnfmaaGreatDoorMin
namespace Go.Proofs.YtkdbiooamgnfmaaGreatDoor.W
open Go Go.RowKit Go.Proofs.YtkdbiooamgnfmaaGreatDoor.E Go.Proofs.YtkdbiooamgnfmaaGreatDoor.M
set_option linter.unusedVariables false
set_option linter.unusedSimpArgs false
set_option maxRecDepth 100000
open Tryz
theorem zero_rel : ∀ w, (zeroValue 60).run Tryz.prog w = .ok (.agg (relC Rl.none)) w := fun w => by
  rw [relC_def]; exact Tryz.zeroValue60 w
theorem built_rel (a : Int) : Tryz.prog.built 60 [(0, I a)] = some (relC ⟨a, fun _ => 0#64⟩) := by
  rw [relC_def]; rfl
theorem relT_fields : Tryz.prog.fieldsOf 60 = #[{ name := "N", type := 3, offset := 0, embedded := false, tag := "", pkgPath := "", byteOffset := 0 }, { name := "Up", type := 58, offset := 1, embedded := false, tag := "", pkgPath := "", byteOffset := 8 }] := by
  unfold Program.fieldsOf; rw [Tryz.underlying60]
theorem relT_fact : RelT Tryz.prog 60 { name := "N", type := 3, offset := 0, embedded := false, tag := "", pkgPath := "", byteOffset := 0 } { name := "Up", type := 58, offset := 1, embedded := false, tag := "", pkgPath := "", byteOffset := 8 } 37 :=
  ⟨by rw [relT_fields]; exact Tryz.underlying60, relT_fields, by decide, by decide, rfl, rfl, Tryz.underlying3, Tryz.isAgg3, Tryz.underlying58, Tryz.isAgg58, Tryz.sizeOf58, Tryz.underlying37, Tryz.sizeOf37, Tryz.isAgg37, by kernel_rfl, by kernel_rfl⟩
theorem elT_fact : ElT Tryz.prog 39 37 := ⟨Tryz.underlying39, Tryz.underlying37, Tryz.sizeOf37, Tryz.isAgg37, by kernel_rfl⟩
theorem zero_el : ∀ w, (zeroValue 39).run Tryz.prog w = .ok (.agg (elC el0)) w := fun w => by
  rw [elC_zero]; exact Tryz.zeroValue39 w
theorem zero_fac : ∀ w, (zeroValue 62).run Tryz.prog w = .ok (.agg (facC fac0)) w := fun w => Tryz.zeroValue62 w
theorem built_rel0 : Tryz.prog.built 60 [] = some (relC Rl.none) := by
  rw [relC_def]; rfl
theorem built_shp1 {v : Value} (h : v.cells = #[v]) : Tryz.prog.built 65 [(1, v)] = some #[B false, v] :=
  (show Tryz.prog.built 65 [(1, v)] = Instr.fill (#[(0, 1), (1, 1)][·]?) #[B false, .slice none 0 0] [(1, v)] from rfl).trans (by simp only [Instr.fill, h]; rfl)
theorem built_fac (k : Int) (b n : Nat) (l : List Tx) : Tryz.prog.built 62 [(0, I k), (1, .slice (some ⟨b, 0, none⟩) n n)] = some (facC ⟨k, .slice (some ⟨b, 0, none⟩) n n, l, Rl.none⟩) := rfl
theorem built_el1 (a : BitVec 64) : Tryz.prog.built 39 [(0, U a)] = some (elC (putE el0 0 a)) := by
  rw [elC_def]; rfl
theorem built_el0 : Tryz.prog.built 39 [] = some (elC el0) := by
  rw [elC_def]; rfl
theorem built_varL_0_1 (a : Tx) (b : Int) : Tryz.prog.built 69 [(0, S a), (1, I b)] = some (varL ⟨a, b, 0⟩).toArray := rfl
theorem built_lat (t : Tx) (p : Shp) : Tryz.prog.built 67 [(0, S t), (1, .agg (shpC p))] = some (latL ⟨t, p⟩).toArray := rfl
theorem built_scpV {v u : Value} (h : v.cells = #[v]) (h2 : u.cells = #[u]) : Tryz.prog.built 25 [(0, v), (1, u)] = some #[v, u] :=
  (show Tryz.prog.built 25 [(0, v), (1, u)] = Instr.fill (#[(0, 1), (1, 1)][·]?) #[.slice none 0 0, .slice none 0 0] [(0, v), (1, u)] from rfl).trans (by simp only [Instr.fill, h, h2]; rfl)
theorem built_asgV {v u : Value} (h : v.cells = #[v]) (h2 : u.cells = #[u]) : Tryz.prog.built 32 [(0, v), (1, u)] = some #[v, u] :=
  (show Tryz.prog.built 32 [(0, v), (1, u)] = Instr.fill (#[(0, 1), (1, 1)][·]?) #[.slice none 0 0, .slice none 0 0] [(0, v), (1, u)] from rfl).trans (by simp only [Instr.fill, h, h2]; rfl)
theorem built_val (a : Tx) (e : El) : Tryz.prog.built 56 [(0, S a), (1, .agg (elC e))] = some (valL ⟨a, e⟩).toArray := by
  rw [elC_def]; kernel_rfl
theorem eq_val (a b : ValR) : EqT Tryz.prog 56 (valL a).toArray (valL b).toArray (sameV a b) :=
  (eqT Tryz.underlying56 (by kernel_rfl) (by kernel_rfl) (.cons (fldS (a := a.name) (b := b.name) (by decide) Tryz.underlying9 Tryz.isAgg9 rfl rfl) (.cons (fldEl (a := a.el) (b := b.el) (by decide) elT_fact Tryz.isAgg39 Tryz.sizeOf39 (val_ext a) (val_ext b)) .nil))).conv (by simp [sameV])
theorem zero_lat : ∀ w, (zeroValue 67).run Tryz.prog w = .ok (.agg (latL lat0).toArray) w := fun w => Tryz.zeroValue67 w
theorem zero_val : ∀ w, (zeroValue 56).run Tryz.prog w = .ok (.agg (valL val0).toArray) w := fun w => (Tryz.zeroValue56 w).trans (by kernel_rfl)
theorem zero_asg : ∀ w, (zeroValue 32).run Tryz.prog w = .ok (.agg (asgL asg0).toArray) w := fun w => Tryz.zeroValue32 w
theorem zero_ins : ∀ w, (zeroValue 91).run Tryz.prog w = .ok (.agg (insL ins0).toArray) w := fun w => (Tryz.zeroValue91 w).trans (by kernel_rfl)
theorem zero_field : ∀ w, (zeroValue 71).run Tryz.prog w = .ok (.agg (fieldL field0).toArray) w := fun w => (Tryz.zeroValue71 w).trans (by kernel_rfl)
theorem zero_ass : ∀ w, (zeroValue 46).run Tryz.prog w = .ok (.agg (assL ass0).toArray) w := fun w => (Tryz.zeroValue46 w).trans (by kernel_rfl)
theorem built_row1 (t : Int) : Tryz.prog.built 44 [(1, I t)] = some (rtmL ⟨.slice none 0 0, [], t⟩).toArray := rfl
theorem built_row10 {v : Value} (l : List FieldR) (t : Int) (h : v.cells = #[v]) : Tryz.prog.built 44 [(1, I t), (0, v)] = some (rtmL ⟨v, l, t⟩).toArray :=
  (show Tryz.prog.built 44 [(1, I t), (0, v)] = Instr.fill (#[(0, 1), (1, 1)][·]?) #[.slice none 0 0, I 0] [(1, I t), (0, v)] from rfl).trans (by simp only [Instr.fill, h]; rfl)
theorem built_atom (v : Int) (e : El) : Tryz.prog.built 41 [(0, I v), (1, .agg (elC e))] = some (atomL ⟨v, e⟩).toArray := by
  rw [elC_def]; kernel_rfl
theorem built_field (t : Tx) (a : AtomR) : Tryz.prog.built 71 [(0, S t), (1, .agg (atomL a).toArray)] = some (fieldL ⟨t, a⟩).toArray := by kernel_rfl
theorem built_ass1 (op : Int) (a b : RowR) : Tryz.prog.built 46 [(0, I op), (4, .agg (rtmL a).toArray), (5, .agg (rtmL b).toArray)] = some (assL ⟨op, 0, .slice none 0 0, [], atom0, a, b, 0, tx0⟩).toArray := by kernel_rfl
theorem built_ass2 (op : Int) (f : Tx) : Tryz.prog.built 46 [(0, I op), (7, S f)] = some (assL ⟨op, 0, .slice none 0 0, [], atom0, row0, row0, 0, f⟩).toArray := by kernel_rfl
theorem built_prob (s : Scp) {v : Value} (l : List AssR) (h : v.cells = #[v]) : Tryz.prog.built 28 [(0, .agg (scpC s)), (1, v)] = some (probL ⟨s, v, l⟩).toArray :=
  (show Tryz.prog.built 28 [(0, .agg (scpC s)), (1, v)] = Instr.fill (#[(0, 2), (2, 1)][·]?) #[.slice none 0 0, .slice none 0 0, .slice none 0 0] [(0, .agg (scpC s)), (1, v)] from rfl).trans (by simp only [Instr.fill, h]; rfl)
theorem built_prob0 (s : Scp) : Tryz.prog.built 28 [(0, .agg (scpC s))] = some (probL ⟨s, .slice none 0 0, []⟩).toArray := rfl
theorem c_rung_chain (n : Int) (w : World) : Calls Tryz.prog 123 #[I n] w (Pure (B (chainB n)) w) := by
 refine enter Tryz.func123 rfl Tryz.ntmps123 rfl <| have hH := Hp.start w; SR <| va (v := B false) rfl <| RL.nil <| SR <| mI rfl <| V (run_geq rfl rfl) <| mB rfl <| RL.splitP (dj := 5) rfl (fun h2 => ?_) (fun h2 => ?_)
 ·refine gT rfl (bT h2) <| mI rfl <| gT rfl (bT h2) <| V (run_leq rfl rfl) <| V (run_pickT (bT h2) (v := B _) rfl) <| aB rfl <| RL.nil <| CW.ret <| outP1 Tryz.results123 (congrArg B ?_) hH.below
  (simp [chainB]; omega)
 ·refine gF rfl (bF h2) <| gF rfl (bF h2) <| V (run_pickF (bF h2) (v := B false) rfl) <| aB rfl <| RL.nil <| CW.ret <| outP1 Tryz.results123 (congrArg B ?_) hH.below
  (simp [chainB]; omega)
theorem c_mask_Below (n : Int) (w : World) : Calls Tryz.prog 88 #[I n] w (Pure (U (below n)) w) := by
 refine enter Tryz.func88 rfl Tryz.ntmps88 rfl <| have hH := Hp.start w; SR <| va (v := U 0#64) rfl <| RL.nil <| CW.seq <| SR <| mI rfl <| V (run_leq rfl rfl) <| RL.nil <| CW.condP rfl (fun h2 => ?_) (fun h2 => ?_)
 ·refine SR <| va (v := U 0#64) rfl <| RL.nil <| CW.ret <| outP1 Tryz.results88 (congrArg U (below_nonpos ‹_›).symm) hH.below
 ·refine CW.skip <| CW.seq <| SR <| mI rfl <| V (run_geq rfl rfl) <| RL.nil <| CW.condP rfl (fun h4 => ?_) (fun h4 => ?_)
  ·refine SR <| va (v := U 18446744073709551615#64) rfl <| RL.nil <| CW.ret <| outP1 Tryz.results88 (congrArg U (below_all ‹_›).symm) hH.below
  ·refine CW.skip <| SR <| mI rfl <| V (run_convIU underlying3 underlying130 rfl) <| V (run_shlU (a := 1#64) rfl rfl) <| V (run_subU rfl (b := 1#64) rfl) <| aU rfl <| RL.nil <| CW.ret <| outP1 Tryz.results88 (congrArg U (below_mid ‹_› ‹_›).symm) hH.below
theorem c_rung_Level (n : Int) (s : BitVec 64) (w : World) : Calls Tryz.prog 108 #[I n, U s] w (Pure (.tuple #[I (level n s).1, B (level n s).2]) w) := by
 refine enter Tryz.func108 rfl Tryz.ntmps108 rfl <| have hH := Hp.start w; SR <| va (v := I 0) rfl <| va (v := B false) rfl <| RL.nil <| CW.seq <| SR <| mI rfl <| RL.callP rfl hH (c_rung_chain _  _) (run_call1 call123 rfl) <| fun w1 hH2 => V (run_not rfl) <| RL.nil <| CW.cond rfl (fun h5 => ?_) (fun h5 => ?_)
 ·refine SR <| va (v := I 0) rfl <| va (v := B false) rfl <| RL.nil <| CW.ret <| have hn := chain_f ‹(!chainB n) = true›; ?_
  refine outP2 Tryz.results108 (congrArg I ?_) (congrArg B ?_) hH2.below <;> rw [level_no s hn]
 ·refine CW.skip <| CW.seq <| SR <| mI rfl <| vm (v := I 0) rfl <| RL.nil <| CW.block <| have hn := chain_t ‹(!chainB n) = false›; CW.loop (G := Int) (fun k s' w' => (Fr (rg 4 3 (rg 11 9 [])) _ s') ∧ (Hp w w' _) ∧ (s' 11 = I k) ∧ (0 ≤ k) ∧ (k ≤ n) ∧ (∀ j : Int, 0 ≤ j → j < k → s ≠ below j)) (fun k => (n - k).toNat) (0) ⟨Fr.refl _ _, hH2, rfl, (by omega), (by omega), fun j a b => absurd b (by omega)⟩ <| ?_
  rintro k sg6 w6 ⟨fr6, hH6, e11_6, h0, hk, hf⟩
  have e1_6 := fr6.uu 1 rfl rfl
  have e10_6 := fr6.ii 10 rfl rfl
  refine SR <| V (run_lss e11_6 e10_6) <| RL.nil <| CW.seq <| CW.condP rfl (fun h8 => ?_) (fun h8 => ?_)
  ·refine CW.skip <| CW.seq <| CW.block <| SR <| vm e11_6 <| aI rfl <| RL.nil <| SR <| vm e1_6 <| mI rfl <| RL.callP rfl hH6 (c_mask_Below _  _) (run_call1 call88 rfl) <| fun w9 hH10 => V (run_eqlU rfl rfl) <| RL.nil <| CW.condP rfl (fun h12 => ?_) (fun h12 => ?_)
   ·refine SR <| mI rfl <| aI rfl <| va (v := B true) rfl <| RL.nil <| CW.ret <| ?_
    refine outP2 Tryz.results108 (congrArg I ?_) (congrArg B ?_) hH10.below <;> rw [level_at hn h0 (by omega) ‹_› hf]
   ·refine CW.skip <| CW.region <| V (run_add e11_6 rfl (by omega)) <| mI rfl <| RL.nil <| ?_
    refine ⟨k + 1, ?_, fr6.u4.u4.u1, hH10, (congrArg I (by rfl)), ?_, ?_, ?_⟩
    ·((try dsimp only); omega)
    ·omega
    ·omega
    ·exact fun j a b => if e : j = k then e ▸ ‹¬ s = below k› else hf j a (by omega)
  ·refine CW.exit (id := 0) rfl <| SR <| va (v := I 0) rfl <| va (v := B false) rfl <| RL.nil <| CW.ret <| ?_
   refine outP2 Tryz.results108 (congrArg I ?_) (congrArg B ?_) hH6.below <;> rw [level_none hn (fun j a b => hf j a (by omega))]
theorem c_mask_in (i : Int) (w : World) : Calls Tryz.prog 148 #[I i] w (Pure (B (inB i)) w) := by
 refine enter Tryz.func148 rfl Tryz.ntmps148 rfl <| have hH := Hp.start w; SR <| va (v := B false) rfl <| RL.nil <| SR <| mI rfl <| V (run_geq rfl rfl) <| mB rfl <| RL.splitP (dj := 5) rfl (fun h2 => ?_) (fun h2 => ?_)
 ·refine gT rfl (bT h2) <| mI rfl <| gT rfl (bT h2) <| V (run_lss rfl rfl) <| V (run_pickT (bT h2) (v := B _) rfl) <| aB rfl <| RL.nil <| CW.ret <| outP1 Tryz.results148 (congrArg B ?_) hH.below
  (simp [inB]; try omega)
 ·refine gF rfl (bF h2) <| gF rfl (bF h2) <| V (run_pickF (bF h2) (v := B false) rfl) <| aB rfl <| RL.nil <| CW.ret <| outP1 Tryz.results148 (congrArg B ?_) hH.below
  (simp [inB]; try omega)
theorem c_mask_Has (s : BitVec 64) (i : Int) (w : World) : Calls Tryz.prog 145 #[U s, I i] w (Pure (B (hasB s i)) w) := by
 refine enter Tryz.func145 rfl Tryz.ntmps145 rfl <| have hH := Hp.start w; SR <| va (v := B false) rfl <| RL.nil <| SR <| mI rfl <| RL.callP rfl hH (c_mask_in _  _) (run_call1 call148 rfl) <| fun w1 hH2 => mB rfl <| RL.split (dj := 7) rfl (fun h4 => ?_) (fun h4 => ?_)
 ·refine gT rfl (bR (c := true) h4) <| mU rfl <| gT rfl (bR (c := true) h4) <| mI rfl <| gT rfl (bR (c := true) h4) <| V (run_convIU underlying3 underlying130 rfl) <| gT rfl (bR (c := true) h4) <| V (run_shrU rfl rfl) <| gT rfl (bR (c := true) h4) <| V (run_andU rfl (b := 1#64) rfl) <| gT rfl (bR (c := true) h4) <| V (run_eqlU rfl (b := 1#64) rfl) <| V (run_pickT (bR (c := true) h4) (v := B _) rfl) <| aB rfl <| RL.nil <| CW.ret <| outP1 Tryz.results145 (congrArg B ?_) hH2.below
  exact has_bit s ‹inB i = true›
 ·refine gF rfl (bR (c := false) h4) <| gF rfl (bR (c := false) h4) <| gF rfl (bR (c := false) h4) <| gF rfl (bR (c := false) h4) <| gF rfl (bR (c := false) h4) <| gF rfl (bR (c := false) h4) <| V (run_pickF (bR (c := false) h4) (v := B false) rfl) <| aB rfl <| RL.nil <| CW.ret <| outP1 Tryz.results145 (congrArg B ?_) hH2.below
  exact (has_no s ‹inB i = false›).symm
theorem c_mask_With (s : BitVec 64) (i : Int) (w : World) : Calls Tryz.prog 143 #[U s, I i] w (Pure (U (withB s i)) w) := by
 refine enter Tryz.func143 rfl Tryz.ntmps143 rfl <| have hH := Hp.start w; SR <| va (v := U 0#64) rfl <| RL.nil <| CW.seq <| SR <| mI rfl <| RL.callP rfl hH (c_mask_in _  _) (run_call1 call148 rfl) <| fun w1 hH2 => V (run_not rfl) <| RL.nil <| CW.cond rfl (fun h5 => ?_) (fun h5 => ?_)
 ·refine SR <| mU rfl <| aU rfl <| RL.nil <| CW.ret <| outP1 Tryz.results143 (congrArg U ?_) hH2.below
  simp_all [withB]
 ·refine CW.skip <| SR <| mU rfl <| mI rfl <| V (run_convIU underlying3 underlying130 rfl) <| V (run_shlU (a := 1#64) rfl rfl) <| V (run_orU rfl rfl) <| aU rfl <| RL.nil <| CW.ret <| outP1 Tryz.results143 (congrArg U ?_) hH2.below
  simp_all [withB]
theorem c_mask_Sub (a b : BitVec 64) (w : World) : Calls Tryz.prog 46 #[U a, U b] w (Pure (B (subB a b)) w) := by
 refine enter Tryz.func46 rfl Tryz.ntmps46 rfl <| have hH := Hp.start w; SR <| va (v := B false) rfl <| RL.nil <| SR <| mU rfl <| mU rfl <| V (run_andNotU rfl rfl) <| V (run_eqlU rfl (b := 0#64) rfl) <| aB rfl <| RL.nil <| CW.ret <| outP1 Tryz.results46 (congrArg B ?_) hH.below
 rfl
theorem c_mask_Of (v : Value) (l : List Int) (w : World) (hs : Sl w v 1 l.length (l.map I)) : Calls Tryz.prog 128 #[v] w (Pure (U (ofl l)) w) := by
 have hm := hs.small
 unfold maxLen at hm
 refine enter Tryz.func128 rfl Tryz.ntmps128 rfl <| have hH := Hp.start w; SR <| va (v := U 0#64) rfl <| RL.nil <| SR <| va (v := U 0#64) rfl <| RL.nil <| CW.seq <| SR <| ?_
 refine V (run_move (by conv => lhs; whnf)) ?_
 refine V (run_lenSl (hs.hp hH) rfl underlying111 rfl) <| vm (v := I 0) rfl <| RL.nil <| CW.block <| CW.loop (G := Int) (fun k s' w' => (Fr (3 :: (5 :: (rg 8 8 []))) _ s') ∧ (Hp w w' _) ∧ (s' 3 = U (ofl (l.take k.toNat))) ∧ (s' 8 = I k) ∧ (0 ≤ k) ∧ (k ≤ l.length)) (fun k => (l.length - k).toNat) (0) ⟨Fr.refl _ _, hH, (congrArg U (by simp [ofl_nil])), rfl, (by omega), (by omega)⟩ <| ?_
 rintro k sg1 w1 ⟨fr1, hH1, e3_1, e8_1, h0, hk⟩
 have e6_1 := (fr1 6 rfl).trans (by conv => lhs; whnf)
 have e7_1 := fr1.ii 7 rfl rfl
 refine SR <| V (run_lss e8_1 e7_1) <| RL.nil <| CW.seq <| CW.condP rfl (fun h3 => ?_) (fun h3 => ?_)
 ·refine CW.skip <| CW.seq <| CW.block <| SR <| V (run_indexAddrS (hs.hp hH1) underlying111 sizeOf3 e6_1 e8_1 (by omega)) <| V (run_ld underlying3 rfl rfl ((hs.hp hH1).cell _ _ (map_at (by omega)))) <| aI rfl <| RL.nil <| CW.region <| vm e3_1 <| mI rfl <| RL.callP rfl hH1 (c_mask_With _ _  _) (run_call2 call143 rfl rfl) <| fun w4 hH5 => aU rfl <| RL.nil <| CW.region <| V (run_add e8_1 rfl (by omega)) <| mI rfl <| RL.nil <| ?_
  refine ⟨k + 1, ?_, fr1.u4.u4.u1.u1, hH5, (congrArg U (by rw [withB_ofl, ← take_next h0 ‹_›])), (congrArg I (by rfl)), ?_, ?_⟩
  ·((try dsimp only); omega)
  ·omega
  ·omega
 ·refine CW.exit (id := 0) rfl <| SR <| vm e3_1 <| aU rfl <| RL.nil <| CW.ret <| outP1 Tryz.results128 (congrArg U ?_) hH1.below
  rw [take_all ‹_›]
theorem c_clearanceref01_Of (v : Value) (l : List Int) (w : World) (hs : Sl w v 1 l.length (l.map I)) : Calls Tryz.prog 114 #[v] w (Pure (U (ofl l)) w) := by
 have hm := hs.small
 unfold maxLen at hm
 refine enter Tryz.func114 rfl Tryz.ntmps114 rfl <| have hH := Hp.start w; SR <| va (v := U 0#64) rfl <| RL.nil <| SR <| va (v := U 0#64) rfl <| va (v := U 1#64) rfl <| RL.nil <| CW.seq <| SR <| va (v := I 0) rfl <| RL.nil <| CW.block <| CW.loop (G := Int) (fun i s' w' => (Fr (rg 3 25 []) _ s') ∧ (Hp w w' _) ∧ (s' 3 = U (oflTo l i.toNat)) ∧ (s' 4 = U (1#64 <<< i.toNat)) ∧ (s' 5 = I i) ∧ (0 ≤ i) ∧ (i ≤ 64)) (fun i => (64 - i).toNat) (0) ⟨Fr.refl _ _, hH, (congrArg U (by rfl)), (congrArg U (by rfl)), rfl, (by omega), (by omega)⟩ <| ?_
 rintro i sg1 w1 ⟨fr1, hH1, e3_1, e4_1, e5_1, i0, i1⟩
 have e0_1 := (fr1 0 rfl).trans (by conv => lhs; whnf)
 have e2_1 := fr1.uu 2 rfl rfl
 refine CW.seq <| SR <| vm e5_1 <| V (run_lss rfl rfl) <| RL.nil <| CW.condP rfl (fun h3 => ?_) (fun h3 => ?_)
 ·refine CW.skip <| CW.seq <| CW.block <| CW.seq <| SR <| va (v := I 0) rfl <| RL.nil <| CW.block <| CW.loop (G := Int) (fun k s' w' => (Fr (3 :: (6 :: (rg 11 15 []))) _ s') ∧ (Hp w w' _) ∧ (s' 3 = U (oflTo l i.toNat)) ∧ (s' 6 = I k) ∧ (0 ≤ k) ∧ (k ≤ l.length) ∧ (∀ j : Int, 0 ≤ j → j < k → l.getD j.toNat 0 ≠ i)) (fun k => (l.length - k).toNat) (0) ⟨Fr.refl _ _, hH1, e3_1, rfl, (by omega), (by omega), fun j a b => absurd b (by omega)⟩ <| ?_
  rintro k sg4 w4 ⟨fr4, hH4, e3_4, e6_4, k0, k1, hf⟩
  have e0_4 := (fr4 0 rfl).trans e0_1
  have e4_4 := (fr4 4 rfl).trans e4_1
  have e5_4 := (fr4 5 rfl).trans e5_1
  refine CW.seq <| SR <| vm e6_4 <| vm e0_4 <| V (run_lenSl (hs.hp hH4) rfl underlying111 rfl) <| V (run_lss rfl rfl) <| RL.nil <| CW.condP rfl (fun h6 => ?_) (fun h6 => ?_)
  ·refine CW.skip <| CW.seq <| CW.block <| SR <| vm e0_4 <| vm e6_4 <| V (run_indexAddrS (hs.hp hH4) underlying111 sizeOf3 rfl rfl (by omega)) <| V (run_ld underlying3 rfl rfl ((hs.hp hH4).cell _ _ (map_at (by omega)))) <| vm e5_4 <| V (run_eql rfl rfl) <| RL.nil <| CW.condP rfl (fun h8 => ?_) (fun h8 => ?_)
   ·refine SR <| vm e3_4 <| vm e4_4 <| V (run_addU rfl rfl) <| aU rfl <| RL.nil <| CW.exit (id := 2) rfl <| CW.region <| vm e4_4 <| V (run_mulU rfl (b := 2#64) rfl) <| aU rfl <| RL.nil <| CW.region <| vm e5_4 <| V (run_add rfl rfl (by omega)) <| aI rfl <| RL.nil <| ?_
    refine ⟨i + 1, ?_, (((fr1.u1.u1.u1).t fr4 rfl)).u4.u4.u4.u4.u4, hH4, (congrArg U (oflTo_yesI i0 (by omega) k0 (by omega) ‹_›)), (congrArg U (by rw [shl_two, show (i + 1).toNat = i.toNat + 1 by omega])), (congrArg I (by rfl)), ?_, ?_⟩
    ·((try dsimp only); omega)
    ·omega
    ·omega
   ·refine CW.skip <| CW.region <| vm e6_4 <| V (run_add rfl rfl (by omega)) <| aI rfl <| RL.nil <| ?_
    refine ⟨k + 1, ?_, fr4.u4.u4.u4.u1, hH4, e3_4, (congrArg I (by rfl)), ?_, ?_, ?_⟩
    ·((try dsimp only); omega)
    ·omega
    ·omega
    ·exact fun j a b => if e : j = k then e ▸ ‹¬ l.getD k.toNat 0 = i› else hf j a (by omega)
  ·refine CW.exit (id := 2) rfl <| CW.region <| vm e4_4 <| V (run_mulU rfl (b := 2#64) rfl) <| aU rfl <| RL.nil <| CW.region <| vm e5_4 <| V (run_add rfl rfl (by omega)) <| aI rfl <| RL.nil <| ?_
   refine ⟨i + 1, ?_, (((fr1.u1.u1.u1).t fr4 rfl)).u4.u4.u1.u1, hH4, (Eq.trans e3_4 (congrArg U (oflTo_noI i0 (fun j a b => hf j a (by omega))))), (congrArg U (by rw [shl_two, show (i + 1).toNat = i.toNat + 1 by omega])), (congrArg I (by rfl)), ?_, ?_⟩
   ·((try dsimp only); omega)
   ·omega
   ·omega
 ·refine CW.exit (id := 0) rfl <| SR <| vm e3_1 <| aU rfl <| RL.nil <| CW.ret <| outP1 Tryz.results114 (congrArg U ?_) hH1.below
  (rw [show i.toNat = 64 by omega]; rfl)
theorem c_rung_Right (n : Int) (s : BitVec 64) (w : World) : Calls Tryz.prog 87 #[I n, U s] w (Pure (B (level n s).2) w) := by
 refine enter Tryz.func87 rfl Tryz.ntmps87 rfl <| have hH := Hp.start w; SR <| va (v := B false) rfl <| RL.nil <| SR <| mI rfl <| mU rfl <| RL.callP rfl hH (c_rung_Level _ _  _) (run_call2 call108 rfl rfl) <| fun w1 hH2 => ?_
 refine V (run_move (by conv => lhs; whnf)) ?_
 refine V (run_extract rfl (v := I _) rfl) <| V (run_extract rfl (v := B _) rfl) <| aI rfl <| aB rfl <| RL.nil <| SR <| mB rfl <| aB rfl <| RL.nil <| CW.ret <| outP1 Tryz.results87 (congrArg B ?_) hH2.below
 rfl
theorem c_bits_TrailingZeros64 (s : BitVec 64) (w : World) (hT : Tab w) : Calls Tryz.prog 147 #[U s] w (Pure (I (tz s)) w) := by
 refine enter Tryz.func147 rfl Tryz.ntmps147 rfl <| have hH := Hp.start w; SR <| va (v := I 0) rfl <| RL.nil <| CW.seq <| SR <| mU rfl <| V (run_eqlU rfl (b := 0#64) rfl) <| RL.nil <| CW.condP rfl (fun h2 => ?_) (fun h2 => ?_)
 ·refine SR <| va (v := I 64) rfl <| RL.nil <| CW.ret <| outP1 Tryz.results147 (congrArg I ?_) hH.below
  rw [‹s = 0#64›]; rfl
 ·refine CW.skip <| SR <| mU rfl <| mU rfl <| V (run_negU rfl) <| V (run_andU rfl rfl) <| V (run_mulU rfl (b := 285870213051353865#64) rfl) <| V (run_shrU rfl (b := 58#64) rfl) <| V (run_indexAddrA underlying148 sizeOf5 rfl rfl (by exact tz_idx _)) <| V (run_ld underlying5 rfl rfl (hT.at _)) <| V (run_convUI underlying5 underlying3 rfl (conv_bd (tztab_bd _))) <| aI rfl <| RL.nil <| CW.ret <| outP1 Tryz.results147 (congrArg I ?_) hH.below
  exact tz_ne ‹_›
theorem c_mask_Each (f : FuncId) (cap : Array Value) (Inv Stop : List Int → World → Prop) (s : BitVec 64) (w : World) (hf : ∀ args w, (callFunc f args).run Tryz.prog w = .ok (.enter f args) w) (hm : ∀ l w w', Inv l w → Below w.heap.size w w' → Inv l w') (hT : ∀ l w, Inv l w → Tab w) (go : ∀ l i r w, lst s = l ++ i :: r → Inv l w → Calls Tryz.prog f (#[I i] ++ cap) w (Ret fun u w' => ∃ c : Bool, u = B c ∧ (c = true → Inv (l ++ [i]) w') ∧ (c = false → Stop (l ++ [i]) w'))) (h0 : Inv [] w) : Calls Tryz.prog 141 #[U s, .func (.func f) #[] cap] w (Ret fun u w' => u = .tuple #[] ∧ (Inv (lst s) w' ∨ ∃ l i r, lst s = l ++ i :: r ∧ Stop (l ++ [i]) w')) := by
 refine enter Tryz.func141 rfl Tryz.ntmps141 rfl <| have hH := Hp.start w; CW.block <| CW.loop (G := (BitVec 64) × (List Int)) (fun ⟨s1, l⟩ s' w' => (Fr (0 :: (rg 4 11 [])) _ s') ∧ (Inv l w') ∧ (s' 0 = U s1) ∧ (lst s = l ++ lst s1)) (fun ⟨s1, l⟩ => (lst s1).length) ((s, [])) ⟨Fr.refl _ _, h0, rfl, (by simp)⟩ <| ?_
 rintro ⟨s1, l⟩ sg1 w1 ⟨fr1, hH1, e0_1, hl⟩
 have hI1 := hH1
 clear hH1
 have hH1 := Hp.start w1
 have e1_1 := fr1.vv 1 (a := .func _ _ _) rfl rfl
 refine CW.seq <| SR <| vm e0_1 <| V (run_neqU rfl (b := 0#64) rfl) <| RL.nil <| CW.condP rfl (fun h3 => ?_) (fun h3 => ?_)
 ·refine CW.skip <| CW.block <| CW.seq <| SR <| vm e1_1 <| vm e0_1 <| RL.callP rfl hH1 (c_bits_TrailingZeros64 _ _ (hT _ _ hI1)) (run_call1 call147 rfl) <| fun w4 hH5 => have hI := hm _ _ _ hI1 hH5.below; RL.call rfl (run_callV1 hf rfl (v1 := I (tz s1)) rfl) (go l (tz s1) (lst (s1 &&& (s1 - 1#64))) _ (by rw [hl, lst_tz ‹_›]) hI) <| ?_
  rintro u8 w6 ⟨c, rfl, hJ1, hJ2⟩
  have hH7 := Hp.start w6
  refine V (run_not rfl) <| RL.nil <| CW.cond rfl (fun h11 => ?_) (fun h11 => ?_)
  ·refine CW.ret <| out0 Tryz.results141 ⟨rfl, .inr ⟨l, tz s1, lst (s1 &&& (s1 - 1#64)), by rw [hl, lst_tz ‹_›], hJ2 (by simpa using ‹(!c) = true›)⟩⟩
  ·refine CW.skip <| CW.region <| vm e0_1 <| vm e0_1 <| V (run_subU rfl (b := 1#64) rfl) <| V (run_andU rfl rfl) <| aU rfl <| RL.nil <| ?_
   refine ⟨(s1 &&& (s1 - 1#64), l ++ [tz s1]), ?_, fr1.u4.u4.u4, (hJ1 (by simpa using ‹(!c) = false›)), rfl, ?_⟩
   ·exact lst_clear_lt ‹_›
   ·rw [hl, lst_tz ‹_›]; simp
 ·refine CW.exit (id := 0) rfl <| have hn : lst s1 = [] := lst_eq_nil.2 (by simpa using ‹¬ s1 ≠ 0#64›); out0 Tryz.results141 ⟨rfl, .inl (by rw [hl, hn, List.append_nil]; assumption)⟩
theorem c_mask_List_1 (W0 : World) (b : Nat) (v : Value) (l : List Int) (i : Int) (w : World) (hH : Hp W0 w [.row v 3 1 l.length (l.map I), .blk b (.cells #[v] 111 (0, 0))]) (hlen : l.length ≤ 64) : Calls Tryz.prog 142 #[I i, .pointer (some ⟨b, 0, none⟩)] w (Ret fun u w' => u = B true ∧ ∃ v', Hp W0 w' [.row v' 3 1 (l ++ [i]).length ((l ++ [i]).map I), .blk b (.cells #[v'] 111 (0, 0))]) := by
 refine enter Tryz.func142 rfl Tryz.ntmps142 rfl <| SR <| va (v := B false) rfl <| RL.nil <| SR <| V (run_ld underlying111 rfl rfl (hH.cell (i := 1) rfl rfl)) <| mI rfl <| RL.new rfl hH (f := fun b => (.slice (some ⟨b, 0, none⟩) 1 1)) (run_mkL underlying111 rfl rfl (sz := 1) (vs := [I _]) rfl rfl (by decide) (by decide) rfl rfl) <| fun b3 w1 hH2 => ?_
 (try simp only [clX] at hH2)
 refine RL.app rfl hH2 (i := 1) rfl (hH2.slBlk (i := 0) (n := 1) (sz := 1) rfl rfl (by decide)) rfl rfl underlying111 rfl rfl (size := 1) (bytes := 8) rfl rfl rfl (by decide) (by simp [Value.oneCell']) (by omega) (by simp only [maxLen]; omega) <| fun v4 w5 hH6 => ?_
 simp only [z2] at hH6
 refine RL.set hH6 (i := 2) rfl (run_st rfl rfl (by conv => lhs; whnf) (row_cells (hH6.get (i := 1) rfl)).1 (row_cells (hH6.get (i := 1) rfl)).2 (hH6.blk (i := 2) rfl) (by simp)) ?_
 intro w7 hH8
 simp only [z2] at hH8
 refine RL.nil <| SR <| va (v := B true) rfl <| RL.nil <| CW.ret <| out1 Tryz.results142 rfl ⟨rfl, (v4 : Value), Hp.conv hH8.tail (by simp)⟩
theorem c_mask_List (s : BitVec 64) (w : World) (hT : Tab w) : Calls Tryz.prog 126 #[U s] w (PureRow 3 1 (lst s).length ((lst s).map I) w) := by
 refine enter Tryz.func126 rfl Tryz.ntmps126 rfl <| have hH := Hp.start w; SR <| va (v := .slice none 0 0) rfl <| RL.nil <| SR <| RL.new rfl hH (f := fun b => (.pointer (some ⟨b, 0, none⟩))) (run_alloc Tryz.zeroValue111) <| fun b3 w1 hH2 => have hH4 := hH2.nilRow 3 1; RL.nil <| SR <| mU rfl <| ?_
 refine V (run_mkF1 (by conv => lhs; whnf)) ?_
 refine RL.call rfl (run_call2 call141 (v1 := U s) rfl (v2 := .func (.func 142) #[] #[.pointer (some ⟨b3, 0, none⟩)]) rfl) (c_mask_Each 142 _ (fun l w' => ∃ v, Hp w w' [.row v 3 1 l.length (l.map I), .blk b3 (.cells #[v] 111 (0, 0))]) (fun _ _ => False) s _ call142 (fun l w' w'' h hb => h.imp fun v h => h.call hb) (fun l w' h => h.elim fun v h => hT.hp h) (fun l i r w' he h => h.elim fun v h => by
   have hl64 : l.length ≤ 64 := by have := lst_len s; rw [he] at this; simp at this; omega
   have hc := c_mask_List_1 w b3 v l i w' h hl64
   refine Ret.calls hc <| fun u w2 hq => ⟨true, hq.1, fun _ => hq.2, fun h => by cases h⟩) ⟨.slice none 0 0, hH4⟩) ?_
 rintro u w5 ⟨rfl, hor⟩
 obtain ⟨v7, hH6⟩ := hor.resolve_right (fun ⟨_, _, _, _, h⟩ => h)
 refine RL.nil <| SR <| V (run_ld underlying111 rfl rfl (hH6.cell (i := 1) rfl rfl)) <| ?_
 refine V (run_assign (by conv => lhs; whnf)) ?_
 refine RL.nil <| CW.ret <| outR Tryz.results126 rfl hH6 (i := 0) rfl (rfl) (rfl)
theorem c_clearanceref03_Points (r : Rl) (w : World) : Calls Tryz.prog 84 #[.agg (relC r)] w (Pure (I (pts r)) w) := by
 refine enter Tryz.func84 rfl Tryz.ntmps84 rfl <| have hH := Hp.start w; SR <| RL.new rfl hH (f := fun b => (.pointer (some ⟨b, 0, none⟩))) (run_box (v := .agg _) rfl) <| fun b3 w1 hH2 => va (v := I 0) rfl <| RL.nil <| CW.seq <| SR <| V (fA underlying60 0 rfl sizeOf3 rfl) <| V (run_ld underlying3 rfl rfl (hH2.cell (i := 0) rfl (relC_N _))) <| V (run_lss rfl rfl) <| RL.nil <| CW.condP rfl (fun h5 => ?_) (fun h5 => ?_)
 ·refine SR <| va (v := I 0) rfl <| RL.nil <| CW.ret <| outP1 Tryz.results84 (congrArg I ?_) hH2.below
  (unfold pts; omega)
 ·refine CW.skip <| CW.seq <| SR <| V (fA underlying60 0 rfl sizeOf3 rfl) <| V (run_ld underlying3 rfl rfl (hH2.cell (i := 0) rfl (relC_N _))) <| V (run_gtr rfl rfl) <| RL.nil <| CW.condP rfl (fun h7 => ?_) (fun h7 => ?_)
  ·refine SR <| va (v := I 64) rfl <| RL.nil <| CW.ret <| outP1 Tryz.results84 (congrArg I ?_) hH2.below
   (unfold pts; omega)
  ·refine CW.skip <| SR <| V (fA underlying60 0 rfl sizeOf3 rfl) <| V (run_ld underlying3 rfl rfl (hH2.cell (i := 0) rfl (relC_N _))) <| aI rfl <| RL.nil <| CW.ret <| outP1 Tryz.results84 (congrArg I ?_) hH2.below
   (unfold pts; omega)
theorem c_relate_points (r : Rl) (w : World) : Calls Tryz.prog 131 #[.agg (relC r)] w (Pure (I (pts r)) w) := by
 refine enter Tryz.func131 rfl Tryz.ntmps131 rfl <| have hH := Hp.start w; SR <| RL.new rfl hH (f := fun b => (.pointer (some ⟨b, 0, none⟩))) (run_box (v := .agg _) rfl) <| fun b3 w1 hH2 => va (v := I 0) rfl <| RL.nil <| SR <| V (fA underlying60 0 rfl sizeOf3 rfl) <| V (run_ld underlying3 rfl rfl (hH2.cell (i := 0) rfl (relC_N _))) <| V (run_minI rfl rfl) <| V (run_maxI rfl rfl) <| aI rfl <| RL.nil <| CW.ret <| outP1 Tryz.results131 (congrArg I ?_) hH2.below
 rfl
theorem c_clearanceref03_Has (r : Rl) (i j : Int) (w : World) : Calls Tryz.prog 113 #[.agg (relC r), I i, I j] w (Pure (B (hasR r i j)) w) := by
 have hp := pts_bd r
 refine enter Tryz.func113 rfl Tryz.ntmps113 rfl <| have hH := Hp.start w; SR <| RL.new rfl hH (f := fun b => (.pointer (some ⟨b, 0, none⟩))) (run_box (v := .agg _) rfl) <| fun b3 w1 hH2 => va (v := B false) rfl <| RL.nil <| SR <| V (run_ldRel underlying60 rfl rfl rfl (hH2.blk (i := 0) rfl)) <| RL.callP rfl hH2 (c_clearanceref03_Points _  _) (run_call1 call84 rfl) <| fun w4 hH5 => aI rfl <| RL.nil <| SR <| mI rfl <| V (run_geq rfl rfl) <| mB rfl <| RL.splitP (dj := 12) rfl (fun h7 => ?_) (fun h7 => ?_)
 ·refine gT rfl (bT h7) <| mI rfl <| gT rfl (bT h7) <| V (run_geq rfl rfl) <| V (run_pickT (bT h7) (v := B _) rfl) <| mB rfl <| RL.splitP (dj := 16) rfl (fun h9 => ?_) (fun h9 => ?_)
  ·refine gT rfl (bT h9) <| mI rfl <| gT rfl (bT h9) <| mI rfl <| gT rfl (bT h9) <| V (run_lss rfl rfl) <| V (run_pickT (bT h9) (v := B _) rfl) <| mB rfl <| RL.splitP (dj := 21) rfl (fun h11 => ?_) (fun h11 => ?_)
   ·refine gT rfl (bT h11) <| mI rfl <| gT rfl (bT h11) <| mI rfl <| gT rfl (bT h11) <| V (run_lss rfl rfl) <| V (run_pickT (bT h11) (v := B _) rfl) <| mB rfl <| RL.splitP (dj := 26) rfl (fun h13 => ?_) (fun h13 => ?_)
    ·refine gT rfl (bT h13) <| mI rfl <| gT rfl (bT h13) <| V (fA underlying60 1 rfl sizeOf58 rfl) <| gT rfl (bT h13) <| V (run_indexAddrA underlying58 sizeOf37 rfl rfl (by omega)) <| gT rfl (bT h13) <| V (run_ld underlying37 rfl rfl (hH5.cell (i := 0) rfl (relC_up _ (by omega)))) <| gT rfl (bT h13) <| mI rfl <| gT rfl (bT h13) <| V (run_convIU underlying3 underlying130 rfl) <| gT rfl (bT h13) <| V (run_shrU rfl rfl) <| gT rfl (bT h13) <| V (run_remU rfl (b := 2#64) rfl (by decide)) <| gT rfl (bT h13) <| V (run_eqlU rfl (b := 1#64) rfl) <| V (run_pickT (bT h13) (v := B _) rfl) <| aB rfl <| RL.nil <| CW.ret <| outP1 Tryz.results113 (congrArg B ?_) hH5.below
     exact has_ref (by omega) (by omega) (by omega) (by omega)
    ·refine gF rfl (bF h13) <| gF rfl (bF h13) <| gF rfl (bF h13) <| gF rfl (bF h13) <| gF rfl (bF h13) <| gF rfl (bF h13) <| gF rfl (bF h13) <| gF rfl (bF h13) <| gF rfl (bF h13) <| V (run_pickF (bF h13) (v := B false) rfl) <| aB rfl <| RL.nil <| CW.ret <| outP1 Tryz.results113 (congrArg B ?_) hH5.below
     exact (has_out (by omega)).symm
   ·refine gF rfl (bF h11) <| gF rfl (bF h11) <| gF rfl (bF h11) <| V (run_pickF (bF h11) (v := B false) rfl) <| mB rfl <| gF rfl rfl <| gF rfl rfl <| gF rfl rfl <| gF rfl rfl <| gF rfl rfl <| gF rfl rfl <| gF rfl rfl <| gF rfl rfl <| gF rfl rfl <| V (run_pickF rfl (v := B false) rfl) <| aB rfl <| RL.nil <| CW.ret <| outP1 Tryz.results113 (congrArg B ?_) hH5.below
    exact (has_out (by omega)).symm
  ·refine gF rfl (bF h9) <| gF rfl (bF h9) <| gF rfl (bF h9) <| V (run_pickF (bF h9) (v := B false) rfl) <| mB rfl <| gF rfl rfl <| gF rfl rfl <| gF rfl rfl <| V (run_pickF rfl (v := B false) rfl) <| mB rfl <| gF rfl rfl <| gF rfl rfl <| gF rfl rfl <| gF rfl rfl <| gF rfl rfl <| gF rfl rfl <| gF rfl rfl <| gF rfl rfl <| gF rfl rfl <| V (run_pickF rfl (v := B false) rfl) <| aB rfl <| RL.nil <| CW.ret <| outP1 Tryz.results113 (congrArg B ?_) hH5.below
   exact (has_out (by omega)).symm
 ·refine gF rfl (bF h7) <| gF rfl (bF h7) <| V (run_pickF (bF h7) (v := B false) rfl) <| mB rfl <| gF rfl rfl <| gF rfl rfl <| gF rfl rfl <| V (run_pickF rfl (v := B false) rfl) <| mB rfl <| gF rfl rfl <| gF rfl rfl <| gF rfl rfl <| V (run_pickF rfl (v := B false) rfl) <| mB rfl <| gF rfl rfl <| gF rfl rfl <| gF rfl rfl <| gF rfl rfl <| gF rfl rfl <| gF rfl rfl <| gF rfl rfl <| gF rfl rfl <| gF rfl rfl <| V (run_pickF rfl (v := B false) rfl) <| aB rfl <| RL.nil <| CW.ret <| outP1 Tryz.results113 (congrArg B ?_) hH5.below
  exact (has_out (by omega)).symm
theorem c_clearanceref03_In (v : Value) (l : List Int) (x : Int) (w : World) (hs : Sl w v 1 l.length (l.map I)) : Calls Tryz.prog 146 #[v, I x] w (Pure (B (l.contains x)) w) := by
 have hm := hs.small
 unfold maxLen at hm
 refine enter Tryz.func146 rfl Tryz.ntmps146 rfl <| have hH := Hp.start w; SR <| va (v := B false) rfl <| RL.nil <| CW.seq <| SR <| va (v := I 0) rfl <| RL.nil <| CW.block <| CW.loop (G := Int) (fun k s' w' => (Fr (rg 4 14 []) _ s') ∧ (Hp w w' _) ∧ (s' 5 = I k) ∧ (0 ≤ k) ∧ (k ≤ l.length) ∧ (∀ j : Int, 0 ≤ j → j < k → l.getD j.toNat 0 ≠ x)) (fun k => (l.length - k).toNat) (0) ⟨Fr.refl _ _, hH, rfl, (by omega), (by omega), fun j a b => absurd b (by omega)⟩ <| ?_
 rintro k sg1 w1 ⟨fr1, hH1, e5_1, h0, hk, hf⟩
 have e0_1 := (fr1 0 rfl).trans (by conv => lhs; whnf)
 have e1_1 := fr1.ii 1 rfl rfl
 refine CW.seq <| SR <| vm e5_1 <| vm e0_1 <| V (run_lenSl (hs.hp hH1) rfl underlying111 rfl) <| V (run_lss rfl rfl) <| RL.nil <| CW.condP rfl (fun h3 => ?_) (fun h3 => ?_)
 ·refine CW.skip <| CW.seq <| CW.block <| SR <| vm e0_1 <| vm e5_1 <| V (run_indexAddrS (hs.hp hH1) underlying111 sizeOf3 rfl rfl (by omega)) <| V (run_ld underlying3 rfl rfl ((hs.hp hH1).cell _ _ (map_at (by omega)))) <| vm e1_1 <| V (run_eql rfl rfl) <| RL.nil <| CW.condP rfl (fun h5 => ?_) (fun h5 => ?_)
  ·refine SR <| va (v := B true) rfl <| RL.nil <| CW.ret <| outP1 Tryz.results146 (congrArg B ?_) hH1.below
   (exact (in_yes h0 ‹_› ‹_›).symm)
  ·refine CW.skip <| CW.region <| vm e5_1 <| V (run_add rfl rfl (by omega)) <| aI rfl <| RL.nil <| ?_
   refine ⟨k + 1, ?_, fr1.u4.u4.u4.u1, hH1, (congrArg I (by rfl)), ?_, ?_, ?_⟩
   ·((try dsimp only); omega)
   ·omega
   ·omega
   ·exact fun j a b => if e : j = k then e ▸ ‹¬ l.getD k.toNat 0 = x› else hf j a (by omega)
 ·refine CW.exit (id := 0) rfl <| SR <| va (v := B false) rfl <| RL.nil <| CW.ret <| outP1 Tryz.results146 (congrArg B ?_) hH1.below
  (exact (in_no fun j a b => hf j a (by omega)).symm)
theorem c_relate_row (r : Rl) (i : Int) (hi : 0 ≤ i ∧ i < 64) (w : World) : Calls Tryz.prog 136 #[.agg (relC r), I i] w (Pure (U (rowR r i)) w) := by
 refine enter Tryz.func136 rfl Tryz.ntmps136 rfl <| have hH := Hp.start w; SR <| RL.new rfl hH (f := fun b => (.pointer (some ⟨b, 0, none⟩))) (run_box (v := .agg _) rfl) <| fun b3 w1 hH2 => va (v := U 0#64) rfl <| RL.nil <| CW.seq <| CW.regionD (by kernel_rfl) hH2 <| fun w4 hH5 => have zh5 := hH5.sub sR; AQ 0 rfl zh5 (mV (I _) rfl) <| AQ 1 rfl zh5 (fA underlying60 1 rfl sizeOf58 rfl) <| AQ 2 rfl zh5 (run_indexAddrA underlying58 sizeOf37 rfl rfl (by omega)) <| AT 3 rfl zh5 (fun w hS => run_ld underlying37 rfl rfl (hS.cell (i := 0) rfl (relC_up _ (by omega)))) <| AT 4 rfl zh5 (fun w hS => run_ldRel underlying60 rfl rfl rfl (hS.blk (i := 0) rfl)) <| A1 5 <| AO.callP rfl gnone rfl hH5 sR (c_relate_points _  _) (run_call1 call131 rfl) <| fun w6 hH7 => A1 6 <| AO.callP rfl gnone rfl hH7 sR (c_mask_Below _  _) (run_call1 call88 rfl) <| fun w8 hH9 => AQ 7 rfl (hH9.sub sR) (run_andU rfl rfl) <| AQ 8 rfl (hH9.sub sR) (aV (U _) rfl) <| AD <| CW.ret <| outP1 Tryz.results136 (congrArg U ?_) hH9.below
 rfl
theorem c_relate_plain (r : Rl) (w : World) : Calls Tryz.prog 117 #[.agg (relC r)] w (Pure (.agg (relC (plainR r))) w) := by
 have hp := pts_bd r
 refine enter Tryz.func117 rfl Tryz.ntmps117 rfl <| have hH := Hp.start w; SR <| RL.new rfl hH (f := fun b => (.pointer (some ⟨b, 0, none⟩))) (run_box (v := .agg _) rfl) <| fun b3 w1 hH2 => RL.new rfl hH2 (f := fun b => (.pointer (some ⟨b, 0, none⟩))) (run_alloc zero_rel) <| fun b6 w4 hH5 => RL.nil <| SR <| V (run_ldRel underlying60 rfl rfl rfl (hH5.blk (i := 1) rfl)) <| RL.callP rfl hH5 (c_relate_points _  _) (run_call1 call131 rfl) <| fun w7 hH8 => V (run_bld (vs := [(0, I _)]) rfl (built_rel _)) <| RL.new rfl hH8 (f := fun b => (.pointer (some ⟨b, 0, none⟩))) (run_alloc zero_rel) <| fun b11 w9 hH10 => RL.set hH10 (i := 0) rfl (run_stRel rfl rfl rfl (hH10.blk (i := 0) rfl)) <| fun w12 hH13 => ?_
 simp only [z2] at hH13
 refine RL.nil <| CW.seq <| SR <| V (fA underlying60 0 rfl sizeOf3 rfl) <| V (run_ld underlying3 rfl rfl (hH13.cell (i := 0) rfl (relC_N _))) <| vm (v := I 0) rfl <| RL.nil <| CW.block <| have hz : (⟨pts r, fun _ => 0#64⟩ : Rl).n = pts r := rfl; CW.loop (G := Int × Rl) (fun ⟨k, r1⟩ s' w' => (Fr (4 :: (rg 10 10 [])) _ s') ∧ (Hp w w' (.blk b11 (.cells (relC r1) 60 (0, 0)) :: _)) ∧ (s' 10 = I k) ∧ (0 ≤ k) ∧ (k ≤ pts r) ∧ (r1 = fillR (pts r) (fun i => rowR r i) k)) (fun ⟨k, r1⟩ => (pts r - k).toNat) ((0, ⟨pts r, fun _ => 0#64⟩)) ⟨Fr.refl _ _, hH13, rfl, (by omega), (by omega), fill_zero _ _⟩ <| ?_
 rintro ⟨k, r1⟩ sg14 w14 ⟨fr14, hH14, e10_14, h0, hk, hr⟩
 have e1_14 := fr14.pp 1 rfl rfl
 have e2_14 := fr14.pp 2 rfl rfl
 have e3_14 := fr14.pp 3 rfl rfl
 have e9_14 := fr14.ii 9 rfl rfl
 have hn : r1.n = pts r := by rw [hr]; rfl
 refine SR <| V (run_lss e10_14 e9_14) <| RL.nil <| CW.seq <| CW.condP rfl (fun h16 => ?_) (fun h16 => ?_)
 ·refine CW.skip <| CW.seq <| CW.block <| SR <| vm e10_14 <| aI rfl <| RL.nil <| CW.region <| mI rfl <| V (run_ldRel underlying60 rfl rfl e1_14 (hH14.blk (i := 2) rfl)) <| mI rfl <| RL.callP rfl hH14 (c_relate_row _ _ (by omega) _) (run_call2 call136 rfl rfl) <| fun w17 hH18 => V (fA underlying60 1 rfl sizeOf58 e3_14) <| V (run_indexAddrA underlying58 sizeOf37 rfl rfl (by omega)) <| RL.set hH18 (i := 0) rfl (run_st rfl rfl (v := U _) rfl rfl rfl (hH18.blk (i := 0) rfl) (by rw [relC_size]; omega)) <| fun w19 hH20 => ?_
  simp only [z2] at hH20
  rw [relC_put] at hH20
  refine RL.nil <| CW.region <| V (run_add e10_14 rfl (by omega)) <| mI rfl <| RL.nil <| ?_
  refine ⟨(k + 1, _), ?_, fr14.u4.u4.u1.u1.u1, hH20, (congrArg I (by rfl)), ?_, ?_, ?_⟩
  ·((try dsimp only); omega)
  ·omega
  ·omega
  ·rw [hr]; exact fill_put h0 (by rw [Int.toNat_of_nonneg h0])
 ·refine CW.exit (id := 0) rfl <| SR <| V (run_ldRel underlying60 rfl rfl e3_14 (hH14.blk (i := 0) rfl)) <| RL.set hH14 (i := 1) rfl (run_stRel rfl e2_14 rfl (hH14.blk (i := 1) rfl)) <| fun w21 hH22 => ?_
  simp only [z2] at hH22
  refine RL.nil <| CW.ret <| outC Tryz.results117 e2_14 hH22 (i := 1) rfl underlying60 rfl rfl ⟨?_, hH22.below⟩
  (rw [hr, show k = pts r by omega]; rfl)
theorem c_relate_Up (r : Rl) (s : BitVec 64) (w : World) (hT : Tab w) : Calls Tryz.prog 127 #[.agg (relC r), U s] w (Pure (U (upR r s)) w) := by
 have hp := pts_bd r
 refine enter Tryz.func127 rfl Tryz.ntmps127 rfl <| have hH := Hp.start w; SR <| RL.new rfl hH (f := fun b => (.pointer (some ⟨b, 0, none⟩))) (run_box (v := .agg _) rfl) <| fun b3 w1 hH2 => va (v := U 0#64) rfl <| RL.nil <| SR <| va (v := U 0#64) rfl <| RL.nil <| CW.seq <| SR <| mU rfl <| V (run_ldRel underlying60 rfl rfl rfl (hH2.blk (i := 0) rfl)) <| RL.callP rfl hH2 (c_relate_points _  _) (run_call1 call131 rfl) <| fun w4 hH5 => RL.callP rfl hH5 (c_mask_Below _  _) (run_call1 call88 rfl) <| fun w6 hH7 => V (run_andU rfl rfl) <| RL.callR rfl hH7 (c_mask_List _  _ (hT.hp hH7)) (run_call1 call126 rfl) <| fun v10 w8 hH9 => V (run_lenSl (hH9.sl (i := 0) rfl) rfl underlying111 rfl) <| vm (v := I 0) rfl <| RL.nil <| CW.block <| have hl := lst_len (s &&& below (pts r)); CW.loop (G := Int) (fun k s' w' => (Fr (5 :: (7 :: (rg 15 10 []))) _ s') ∧ (Hp w w' _) ∧ (s' 5 = U (orAll (rowR r) ((lst (s &&& below (pts r))).take k.toNat))) ∧ (s' 15 = I k) ∧ (0 ≤ k) ∧ (k ≤ (lst (s &&& below (pts r))).length)) (fun k => ((lst (s &&& below (pts r))).length - k).toNat) (0) ⟨Fr.refl _ _, hH9, (congrArg U (by simp [orAll])), rfl, (by omega), (by omega)⟩ <| ?_
 rintro k sg11 w11 ⟨fr11, hH11, e5_11, e15_11, h0, hk⟩
 have e2_11 := fr11.pp 2 rfl rfl
 have e13_11 := (fr11 13 rfl).trans (by conv => lhs; whnf)
 have e14_11 := fr11.ii 14 rfl rfl
 refine SR <| V (run_lss e15_11 e14_11) <| RL.nil <| CW.seq <| CW.condP rfl (fun h13 => ?_) (fun h13 => ?_)
 ·refine CW.skip <| CW.seq <| CW.block <| SR <| V (run_indexAddrS (hH11.sl (i := 0) rfl) underlying111 sizeOf3 e13_11 e15_11 (by omega)) <| V (run_ld underlying3 rfl rfl ((hH11.sl (i := 0) rfl).cell _ _ (map_at (by omega)))) <| aI rfl <| RL.nil <| CW.region <| vm e5_11 <| V (run_ldRel underlying60 rfl rfl e2_11 (hH11.blk (i := 1) rfl)) <| mI rfl <| RL.callP rfl hH11 (c_relate_row _ _ (by exact lst_at_bd (by assumption) (by assumption)) _) (run_call2 call136 rfl rfl) <| fun w14 hH15 => V (run_orU rfl rfl) <| aU rfl <| RL.nil <| CW.region <| V (run_add e15_11 rfl (by omega)) <| mI rfl <| RL.nil <| ?_
  refine ⟨k + 1, ?_, fr11.u4.u4.u4, hH15, (congrArg U (orAll_next h0 ‹_›)), (congrArg I (by rfl)), ?_, ?_⟩
  ·((try dsimp only); omega)
  ·omega
  ·omega
 ·refine CW.exit (id := 0) rfl <| SR <| vm e5_11 <| aU rfl <| RL.nil <| CW.ret <| outP1 Tryz.results127 (congrArg U ?_) hH11.below
  (rw [take_all ‹_›]; rfl)
theorem c_relate_Down (r : Rl) (s : BitVec 64) (w : World) : Calls Tryz.prog 129 #[.agg (relC r), U s] w (Pure (U (downR r s)) w) := by
 have hp := pts_bd r
 refine enter Tryz.func129 rfl Tryz.ntmps129 rfl <| have hH := Hp.start w; SR <| RL.new rfl hH (f := fun b => (.pointer (some ⟨b, 0, none⟩))) (run_box (v := .agg _) rfl) <| fun b3 w1 hH2 => va (v := U 0#64) rfl <| RL.nil <| SR <| va (v := U 0#64) rfl <| RL.nil <| CW.seq <| SR <| V (run_ldRel underlying60 rfl rfl rfl (hH2.blk (i := 0) rfl)) <| RL.callP rfl hH2 (c_relate_points _  _) (run_call1 call131 rfl) <| fun w4 hH5 => vm (v := I 0) rfl <| RL.nil <| CW.block <| CW.loop (G := Int) (fun k s' w' => (Fr (5 :: 6 :: (rg 9 13 [])) _ s') ∧ (Hp w w' _) ∧ (s' 5 = U (downTo r s k)) ∧ (s' 9 = I k) ∧ (0 ≤ k) ∧ (k ≤ pts r)) (fun k => (pts r - k).toNat) (0) ⟨Fr.refl _ _, hH5, (congrArg U (by simp [downTo, bitsTo])), rfl, (by omega), (by omega)⟩ <| ?_
 rintro k sg6 w6 ⟨fr6, hH6, e5_6, e9_6, h0, hk⟩
 have e1_6 := fr6.uu 1 rfl rfl
 have e2_6 := fr6.pp 2 rfl rfl
 have e8_6 := fr6.ii 8 rfl rfl
 refine SR <| V (run_lss e9_6 e8_6) <| RL.nil <| CW.seq <| CW.condP rfl (fun h8 => ?_) (fun h8 => ?_)
 ·refine CW.skip <| CW.seq <| CW.block <| SR <| vm e9_6 <| aI rfl <| RL.nil <| SR <| V (run_ldRel underlying60 rfl rfl e2_6 (hH6.blk (i := 0) rfl)) <| mI rfl <| RL.callP rfl hH6 (c_relate_row _ _ (by omega) _) (run_call2 call136 rfl rfl) <| fun w9 hH10 => vm e1_6 <| V (run_andU rfl rfl) <| V (run_neqU rfl (b := 0#64) rfl) <| RL.nil <| CW.condP rfl (fun h12 => ?_) (fun h12 => ?_)
  ·refine CW.region <| vm e5_6 <| mI rfl <| RL.callP rfl hH10 (c_mask_With _ _  _) (run_call2 call143 rfl rfl) <| fun w13 hH14 => aU rfl <| RL.nil <| CW.region <| V (run_add e9_6 rfl (by omega)) <| mI rfl <| RL.nil <| ?_
   refine ⟨k + 1, ?_, fr6.u4.u4.u4.u1.u1.u1, hH14, (congrArg U (by exact down_yes h0 (by omega) ‹_›)), (congrArg I (by rfl)), ?_, ?_⟩
   ·((try dsimp only); omega)
   ·omega
   ·omega
  ·refine CW.skip <| CW.region <| V (run_add e9_6 rfl (by omega)) <| mI rfl <| RL.nil <| ?_
   refine ⟨k + 1, ?_, fr6.u4.u4.u1.u1.u1, hH10, (Eq.trans e5_6 (congrArg U (by exact down_not h0 ‹_›))), (congrArg I (by rfl)), ?_, ?_⟩
   ·((try dsimp only); omega)
   ·omega
   ·omega
 ·refine CW.exit (id := 0) rfl <| SR <| vm e5_6 <| aU rfl <| RL.nil <| CW.ret <| outP1 Tryz.results129 (congrArg U ?_) hH6.below
  (rw [show k = pts r by omega]; rfl)
theorem c_clearanceref03_Plain (r : Rl) (w : World) : Calls Tryz.prog 139 #[.agg (relC r)] w (Pure (.agg (relC (plainR r))) w) := by
 have hp := pts_bd r
 refine enter Tryz.func139 rfl Tryz.ntmps139 rfl <| have hH := Hp.start w; SR <| RL.new rfl hH (f := fun b => (.pointer (some ⟨b, 0, none⟩))) (run_box (v := .agg _) rfl) <| fun b3 w1 hH2 => RL.new rfl hH2 (f := fun b => (.pointer (some ⟨b, 0, none⟩))) (run_alloc zero_rel) <| fun b6 w4 hH5 => RL.nil <| SR <| V (run_ldRel underlying60 rfl rfl rfl (hH5.blk (i := 1) rfl)) <| RL.callP rfl hH5 (c_clearanceref03_Points _  _) (run_call1 call84 rfl) <| fun w7 hH8 => V (run_bld (vs := [(0, I _)]) rfl (built_rel _)) <| RL.new rfl hH8 (f := fun b => (.pointer (some ⟨b, 0, none⟩))) (run_alloc zero_rel) <| fun b11 w9 hH10 => RL.set hH10 (i := 0) rfl (run_stRel rfl rfl rfl (hH10.blk (i := 0) rfl)) <| fun w12 hH13 => ?_
 simp only [z2] at hH13
 refine RL.nil <| CW.seq <| SR <| va (v := I 0) rfl <| RL.nil <| CW.block <| have hz : (⟨pts r, fun _ => 0#64⟩ : Rl).n = pts r := rfl; CW.loop (G := Int × Rl) (fun ⟨k, r1⟩ s' w' => (Fr (rg 4 3 (rg 10 25 [])) _ s') ∧ (Hp w w' (.blk b11 (.cells (relC r1) 60 (0, 0)) :: _)) ∧ (s' 4 = I k) ∧ (0 ≤ k) ∧ (k ≤ pts r) ∧ (r1 = fillR (pts r) (fun i => rowR r i) k)) (fun ⟨k, r1⟩ => (pts r - k).toNat) ((0, ⟨pts r, fun _ => 0#64⟩)) ⟨Fr.refl _ _, hH13, rfl, (by omega), (by omega), fill_zero _ _⟩ <| ?_
 rintro ⟨k, r1⟩ sg14 w14 ⟨fr14, hH14, e4_14, h0, hk, hr⟩
 have e1_14 := fr14.pp 1 rfl rfl
 have e2_14 := fr14.pp 2 rfl rfl
 have e3_14 := fr14.pp 3 rfl rfl
 have hn : r1.n = pts r := by rw [hr]; rfl
 refine CW.seq <| SR <| vm e4_14 <| V (fA underlying60 0 rfl sizeOf3 e3_14) <| V (run_ld underlying3 rfl rfl (hH14.cell (i := 0) rfl (relC_N _))) <| V (run_lss rfl rfl) <| RL.nil <| CW.condP rfl (fun h16 => ?_) (fun h16 => ?_)
 ·refine CW.skip <| CW.seq <| CW.block <| SR <| va (v := .slice none 0 0) rfl <| have hH17 := hH14.nilRow 3 1; RL.nil <| CW.seq <| SR <| va (v := I 0) rfl <| RL.nil <| CW.block <| CW.loop (G := Int × (List Int) × Value) (fun ⟨j, l, v5⟩ s' w' => (Fr (5 :: 6 :: (rg 16 14 [])) _ s') ∧ (Hp w w' (.row v5 3 1 (l.length) (l.map I) :: _)) ∧ (s' 5 = v5) ∧ (s' 6 = I j) ∧ (0 ≤ j) ∧ (j ≤ pts r) ∧ (l = aboveTo r k j)) (fun ⟨j, l, v5⟩ => (pts r - j).toNat) ((0, [], (.slice none 0 0 : Value))) ⟨Fr.refl _ _, hH17, rfl, rfl, (by omega), (by omega), rfl⟩ <| ?_
  rintro ⟨j, l, v5⟩ sg18 w18 ⟨fr18, hH18, e5_18, e6_18, j0, j1, hl⟩
  have e1_18 := (fr18 1 rfl).trans e1_14
  have e3_18 := (fr18 3 rfl).trans e3_14
  have e4_18 := (fr18 4 rfl).trans e4_14
  refine CW.seq <| SR <| vm e6_18 <| V (fA underlying60 0 rfl sizeOf3 e3_18) <| V (run_ld underlying3 rfl rfl (hH18.cell (i := 1) rfl (relC_N _))) <| V (run_lss rfl rfl) <| RL.nil <| CW.condP rfl (fun h20 => ?_) (fun h20 => ?_)
  ·refine CW.skip <| CW.seq <| CW.block <| SR <| V (run_ldRel underlying60 rfl rfl e1_18 (hH18.blk (i := 3) rfl)) <| vm e4_18 <| vm e6_18 <| RL.callP rfl hH18 (c_clearanceref03_Has _ _ _  _) (run_call3 call113 rfl rfl rfl) <| fun w21 hH22 => RL.nil <| CW.cond rfl (fun h24 => ?_) (fun h24 => ?_)
   ·refine CW.region <| vm e5_18 <| vm e6_18 <| RL.new rfl hH22 (f := fun b => (.slice (some ⟨b, 0, none⟩) 1 1)) (run_mkL underlying111 rfl rfl (sz := 1) (vs := [I _]) rfl rfl (by decide) (by decide) rfl rfl) <| fun b27 w25 hH26 => ?_
    (try simp only [clX] at hH26)
    refine RL.app rfl hH26 (i := 1) rfl (hH26.slBlk (i := 0) (n := 1) (sz := 1) rfl rfl (by decide)) rfl rfl underlying111 rfl rfl (size := 1) (bytes := 8) rfl rfl rfl (by decide) (by simp [Value.oneCell']) (by have := @above_len r k j; rw [← hl] at this; omega) (by have := @above_len r k j; rw [← hl] at this; simp only [maxLen]; omega) <| fun v28 w29 hH30 => ?_
    simp only [z2] at hH30
    refine V (run_assign (by conv => lhs; whnf)) ?_
    refine RL.nil <| CW.region <| vm e6_18 <| V (run_add rfl rfl (by omega)) <| aI rfl <| RL.nil <| ?_
    refine ⟨(j + 1, l ++ [j], v28), ?_, fr18.u4.u4.u4.u4, (Hp.conv (hH30.sub (sQ sR)) (by simp)), rfl, (congrArg I (by rfl)), ?_, ?_, ?_⟩
    ·((try dsimp only); omega)
    ·omega
    ·omega
    ·(rw [hl]; exact above_yes j0 ‹_›)
   ·refine CW.skip <| CW.region <| vm e6_18 <| V (run_add rfl rfl (by omega)) <| aI rfl <| RL.nil <| ?_
    refine ⟨(j + 1, l, v5), ?_, fr18.u4.u4.u1.u1.u1, (Hp.conv hH22 (by rfl)), e5_18, (congrArg I (by rfl)), ?_, ?_, ?_⟩
    ·((try dsimp only); omega)
    ·omega
    ·omega
    ·(rw [hl]; exact above_not j0 ‹_›)
  ·refine CW.exit (id := 2) rfl <| CW.region <| vm e4_18 <| vm e5_18 <| RL.callP rfl hH18 (c_clearanceref01_Of _ _  _ (hH18.sl (i := 0) rfl)) (run_call1 call114 rfl) <| fun w31 hH32 => V (fA underlying60 1 rfl sizeOf58 e3_18) <| V (run_indexAddrA underlying58 sizeOf37 rfl rfl (by omega)) <| RL.set hH32 (i := 1) rfl (run_st rfl rfl (v := U _) rfl rfl rfl (hH32.blk (i := 1) rfl) (by rw [relC_size]; omega)) <| fun w33 hH34 => ?_
   simp only [z2] at hH34
   rw [relC_put] at hH34
   refine RL.nil <| CW.region <| vm e4_18 <| V (run_add rfl rfl (by omega)) <| aI rfl <| RL.nil <| ?_
   refine ⟨(k + 1, _), ?_, (((fr14.u4.u1.u1).t fr18 rfl)).u4.u4.u4, (hH34.sub (sQ sR)), (congrArg I (by rfl)), ?_, ?_, ?_⟩
   ·((try dsimp only); omega)
   ·omega
   ·omega
   ·rw [hr]; exact fill_put h0 (by rw [Int.toNat_of_nonneg h0, hl, show j = pts r by omega]; exact above_row ⟨h0, by omega⟩)
 ·refine CW.exit (id := 0) rfl <| SR <| V (run_ldRel underlying60 rfl rfl e3_14 (hH14.blk (i := 0) rfl)) <| RL.set hH14 (i := 1) rfl (run_stRel rfl e2_14 rfl (hH14.blk (i := 1) rfl)) <| fun w35 hH36 => ?_
  simp only [z2] at hH36
  refine RL.nil <| CW.ret <| outC Tryz.results139 e2_14 hH36 (i := 1) rfl underlying60 rfl rfl ⟨?_, hH36.below⟩
  (rw [hr, show k = pts r by omega]; rfl)
theorem c_relate_Closure (r : Rl) (w : World) : Calls Tryz.prog 137 #[.agg (relC r)] w (Pure (.agg (relC (cloR r))) w) := by
 have hp := pts_bd r
 have hn0 : (plainR r).n = pts r := rfl
 refine enter Tryz.func137 rfl Tryz.ntmps137 rfl <| have hH := Hp.start w; SR <| RL.new rfl hH (f := fun b => (.pointer (some ⟨b, 0, none⟩))) (run_box (v := .agg _) rfl) <| fun b3 w1 hH2 => RL.new rfl hH2 (f := fun b => (.pointer (some ⟨b, 0, none⟩))) (run_alloc zero_rel) <| fun b6 w4 hH5 => RL.nil <| SR <| V (run_ldRel underlying60 rfl rfl rfl (hH5.blk (i := 1) rfl)) <| RL.callP rfl hH5 (c_relate_plain _  _) (run_call1 call117 rfl) <| fun w7 hH8 => RL.new rfl hH8 (f := fun b => (.pointer (some ⟨b, 0, none⟩))) (run_alloc zero_rel) <| fun b11 w9 hH10 => RL.set hH10 (i := 0) rfl (run_stRel rfl rfl rfl (hH10.blk (i := 0) rfl)) <| fun w12 hH13 => ?_
 simp only [z2] at hH13
 refine RL.nil <| CW.seq <| SR <| V (fA underlying60 0 rfl sizeOf3 rfl) <| V (run_ld underlying3 rfl rfl (hH13.cell (i := 0) rfl (relC_N _))) <| vm (v := I 0) rfl <| RL.nil <| CW.block <| CW.loop (G := Int × Rl) (fun ⟨k, r1⟩ s' w' => (Fr (4 :: (rg 11 13 [])) _ s') ∧ (Hp w w' (.blk b11 (.cells (relC r1) 60 (0, 0)) :: _)) ∧ (s' 11 = I k) ∧ (0 ≤ k) ∧ (k ≤ pts r) ∧ (r1 = ⟨pts r, selfTo (plainR r).up k⟩)) (fun ⟨k, r1⟩ => (pts r - k).toNat) ((0, plainR r)) ⟨Fr.refl _ _, hH13, rfl, (by omega), (by omega), self_zero _ _⟩ <| ?_
 rintro ⟨k, r1⟩ sg14 w14 ⟨fr14, hH14, e11_14, h0, hk, hr⟩
 have e2_14 := fr14.pp 2 rfl rfl
 have e3_14 := fr14.pp 3 rfl rfl
 have e10_14 := fr14.ii 10 rfl rfl
 have hn : r1.n = pts r := by rw [hr]
 refine SR <| V (run_lss e11_14 e10_14) <| RL.nil <| CW.seq <| CW.condP rfl (fun h16 => ?_) (fun h16 => ?_)
 ·refine CW.skip <| CW.seq <| CW.block <| SR <| vm e11_14 <| aI rfl <| RL.nil <| CW.region <| mI rfl <| mI rfl <| V (fA underlying60 1 rfl sizeOf58 e3_14) <| V (run_indexAddrA underlying58 sizeOf37 rfl rfl (by omega)) <| V (run_ld underlying37 rfl rfl (hH14.cell (i := 0) rfl (relC_up _ (by omega)))) <| mI rfl <| RL.callP rfl hH14 (c_mask_With _ _  _) (run_call2 call143 rfl rfl) <| fun w17 hH18 => V (fA underlying60 1 rfl sizeOf58 e3_14) <| V (run_indexAddrA underlying58 sizeOf37 rfl rfl (by omega)) <| RL.set hH18 (i := 0) rfl (run_st rfl rfl (v := U _) rfl rfl rfl (hH18.blk (i := 0) rfl) (by rw [relC_size]; omega)) <| fun w19 hH20 => ?_
  simp only [z2] at hH20
  rw [relC_put] at hH20
  refine RL.nil <| CW.region <| V (run_add e11_14 rfl (by omega)) <| mI rfl <| RL.nil <| ?_
  refine ⟨(k + 1, _), ?_, fr14.u4.u4.u4.u1.u1, hH20, (congrArg I (by rfl)), ?_, ?_, ?_⟩
  ·((try dsimp only); omega)
  ·omega
  ·omega
  ·rw [hr]; exact self_put h0
 ·refine CW.exit (id := 0) rfl <| CW.seq <| SR <| V (fA underlying60 0 rfl sizeOf3 e3_14) <| V (run_ld underlying3 rfl rfl (hH14.cell (i := 0) rfl (relC_N _))) <| vm (v := I 0) rfl <| RL.nil <| CW.block <| CW.loop (G := Int × Rl) (fun ⟨m, r2⟩ s' w' => (Fr (5 :: 6 :: (rg 26 27 [])) _ s') ∧ (Hp w w' (.blk b11 (.cells (relC r2) 60 (0, 0)) :: _)) ∧ (s' 26 = I m) ∧ (0 ≤ m) ∧ (m ≤ pts r) ∧ (r2 = ⟨pts r, wall (pts r) (selfTo (plainR r).up (pts r)) m.toNat⟩)) (fun ⟨m, r2⟩ => (pts r - m).toNat) ((0, r1)) ⟨Fr.refl _ _, hH14, rfl, (by omega), (by omega), (by rw [hr, show k = pts r by omega]; rfl)⟩ <| ?_
  rintro ⟨m, r2⟩ sg21 w21 ⟨fr21, hH21, e26_21, m0, m1, hr2⟩
  have e2_21 := (fr21 2 rfl).trans e2_14
  have e3_21 := (fr21 3 rfl).trans e3_14
  have e25_21 := fr21.ii 25 rfl rfl
  have hn2 : r2.n = pts r := by rw [hr2]
  refine SR <| V (run_lss e26_21 e25_21) <| RL.nil <| CW.seq <| CW.condP rfl (fun h23 => ?_) (fun h23 => ?_)
  ·refine CW.skip <| CW.seq <| CW.block <| SR <| vm e26_21 <| aI rfl <| RL.nil <| SR <| V (fA underlying60 0 rfl sizeOf3 e3_21) <| V (run_ld underlying3 rfl rfl (hH21.cell (i := 0) rfl (relC_N _))) <| vm (v := I 0) rfl <| RL.nil <| CW.block <| CW.loop (G := Int × Rl) (fun ⟨i, r3⟩ s' w' => (Fr (6 :: (rg 31 21 [])) _ s') ∧ (Hp w w' (.blk b11 (.cells (relC r3) 60 (0, 0)) :: _)) ∧ (s' 31 = I i) ∧ (0 ≤ i) ∧ (i ≤ pts r) ∧ (r3 = ⟨pts r, passTo m.toNat i r2.up⟩)) (fun ⟨i, r3⟩ => (pts r - i).toNat) ((0, r2)) ⟨Fr.refl _ _, hH21, rfl, (by omega), (by omega), (by rw [hr2]; exact pass_zero _ _ _)⟩ <| ?_
   rintro ⟨i, r3⟩ sg24 w24 ⟨fr24, hH24, e31_24, i0, i1, hr3⟩
   have e3_24 := (fr24 3 rfl).trans e3_21
   have e5_24 := fr24.ii 5 rfl rfl
   have e26_24 := (fr24 26 rfl).trans e26_21
   have e30_24 := fr24.ii 30 rfl rfl
   have hn3 : r3.n = pts r := by rw [hr3]
   refine SR <| V (run_lss e31_24 e30_24) <| RL.nil <| CW.seq <| CW.condP rfl (fun h26 => ?_) (fun h26 => ?_)
   ·refine CW.skip <| CW.seq <| CW.block <| SR <| vm e31_24 <| aI rfl <| RL.nil <| SR <| mI rfl <| V (fA underlying60 1 rfl sizeOf58 e3_24) <| V (run_indexAddrA underlying58 sizeOf37 rfl rfl (by omega)) <| V (run_ld underlying37 rfl rfl (hH24.cell (i := 0) rfl (relC_up _ (by omega)))) <| vm e5_24 <| RL.callP rfl hH24 (c_mask_Has _ _  _) (run_call2 call145 rfl rfl) <| fun w27 hH28 => RL.nil <| CW.cond rfl (fun h30 => ?_) (fun h30 => ?_)
    ·refine CW.regionS (by kernel_rfl) hH28 (sQ sR) <| fun w31 hH32 => have zh32 := hH32.sub (sQ sR); AQ 0 rfl zh32 (mV (I _) rfl) <| AQ 1 rfl zh32 (fA underlying60 1 rfl sizeOf58 e3_24) <| AQ 2 rfl zh32 (run_indexAddrA underlying58 sizeOf37 rfl rfl (by omega)) <| AQ 4 rfl zh32 (run_move e5_24) <| AQ 5 rfl zh32 (fA underlying60 1 rfl sizeOf58 e3_24) <| AQ 6 rfl zh32 (run_indexAddrA underlying58 sizeOf37 rfl rfl (by omega)) <| AQ 9 rfl zh32 (fA underlying60 1 rfl sizeOf58 e3_24) <| AN.two 3 7 (by kernel_rfl) ?_ ?_
     ·refine AO.read rfl gnone rfl hH32 (sQ sR) (run_ld underlying37 rfl rfl (hH32.cell (i := 0) rfl (relC_up _ (by omega)))) <| A1 7 <| AO.read rfl gnone rfl hH32 (sQ sR) (run_ld underlying37 rfl rfl (hH32.cell (i := 0) rfl (relC_up _ (by omega)))) <| AQ 8 rfl zh32 (run_orU rfl rfl) <| AQ 10 rfl zh32 (run_indexAddrA underlying58 sizeOf37 rfl rfl (by omega)) <| A1 11 <| AO.set rfl gnone hH32 (j := 0) rfl (sQ sR) (run_st rfl rfl (v := U _) rfl rfl rfl (hH32.blk (i := 0) rfl) (by rw [relC_size]; omega)) <| fun w39 hH40 => ?_
      simp only [z2] at hH40
      rw [relC_put] at hH40
      refine AD <| CW.region <| V (run_add e31_24 rfl (by omega)) <| mI rfl <| RL.nil <| ?_
      refine ⟨(i + 1, _), ?_, fr24.u4.u4.u4.u4.u4.u1.u1, hH40, (congrArg I (by rfl)), ?_, ?_, ?_⟩
      ·((try dsimp only); omega)
      ·omega
      ·omega
      ·(rw [hr3] at *; exact pass_yes m0 i0 ‹_›)
     ·refine AO.read rfl gnone rfl hH32 (sQ sR) (run_ld underlying37 rfl rfl (hH32.cell (i := 0) rfl (relC_up _ (by omega)))) <| A1 3 <| AO.read rfl gnone rfl hH32 (sQ sR) (run_ld underlying37 rfl rfl (hH32.cell (i := 0) rfl (relC_up _ (by omega)))) <| AQ 8 rfl zh32 (run_orU rfl rfl) <| AQ 10 rfl zh32 (run_indexAddrA underlying58 sizeOf37 rfl rfl (by omega)) <| A1 11 <| AO.set rfl gnone hH32 (j := 0) rfl (sQ sR) (run_st rfl rfl (v := U _) rfl rfl rfl (hH32.blk (i := 0) rfl) (by rw [relC_size]; omega)) <| fun w47 hH48 => ?_
      simp only [z2] at hH48
      rw [relC_put] at hH48
      refine AD <| CW.region <| V (run_add e31_24 rfl (by omega)) <| mI rfl <| RL.nil <| ?_
      refine ⟨(i + 1, _), ?_, fr24.u4.u4.u4.u4.u4.u1.u1, hH48, (congrArg I (by rfl)), ?_, ?_, ?_⟩
      ·((try dsimp only); omega)
      ·omega
      ·omega
      ·(rw [hr3] at *; exact pass_yes m0 i0 ‹_›)
    ·refine CW.skip <| CW.region <| V (run_add e31_24 rfl (by omega)) <| mI rfl <| RL.nil <| ?_
     refine ⟨(i + 1, _), ?_, fr24.u4.u4.u1.u1.u1, hH28, (congrArg I (by rfl)), ?_, ?_, ?_⟩
     ·((try dsimp only); omega)
     ·omega
     ·omega
     ·(rw [hr3] at *; exact pass_not ⟨m0, by omega⟩ i0 ‹_›)
   ·refine CW.exit (id := 4) rfl <| CW.region <| V (run_add e26_24 rfl (by omega)) <| mI rfl <| RL.nil <| ?_
    refine ⟨(m + 1, _), ?_, (((fr21.u4.u1.u1).t fr24 rfl)).u1.u1.u1, hH24, (congrArg I (by rfl)), ?_, ?_, ?_⟩
    ·((try dsimp only); omega)
    ·omega
    ·omega
    ·rw [hr3, hr2, show i = pts r by omega]; exact wall_next m0
  ·refine CW.exit (id := 2) rfl <| SR <| V (run_ldRel underlying60 rfl rfl e3_21 (hH21.blk (i := 0) rfl)) <| RL.set hH21 (i := 1) rfl (run_stRel rfl e2_21 rfl (hH21.blk (i := 1) rfl)) <| fun w49 hH50 => ?_
   simp only [z2] at hH50
   refine RL.nil <| CW.ret <| outC Tryz.results137 e2_21 hH50 (i := 1) rfl underlying60 rfl rfl ⟨?_, hH50.below⟩
   (rw [hr2, show m = pts r by omega]; rfl)
theorem c_clearanceref03_Reach (r : Rl) (i : Int) (w : World) : Calls Tryz.prog 140 #[.agg (relC r), I i] w (PureRow 3 1 (reachL r i).length ((reachL r i).map I) w) := by
 have hp := pts_bd r
 refine enter Tryz.func140 rfl Tryz.ntmps140 rfl <| have hH := Hp.start w; SR <| RL.new rfl hH (f := fun b => (.pointer (some ⟨b, 0, none⟩))) (run_box (v := .agg _) rfl) <| fun b3 w1 hH2 => va (v := .slice none 0 0) rfl <| have hH4 := hH2.nilRow 3 1; RL.nil <| CW.seq <| SR <| mI rfl <| V (run_lss rfl rfl) <| mB rfl <| RL.splitP (dj := 10) rfl (fun h6 => ?_) (fun h6 => ?_)
 ·refine gF rfl (bT h6) <| gF rfl (bT h6) <| gF rfl (bT h6) <| gF rfl (bT h6) <| V (run_pickT (bT h6) (v := B true) rfl) <| RL.nil <| CW.condT rfl <| SR <| va (v := .slice none 0 0) rfl <| have hH7 := hH4.nilRow 3 1; RL.nil <| CW.ret <| outR Tryz.results140 rfl hH7 (i := 0) rfl (by rw [reach_nil (by omega)]; rfl) (by rw [reach_nil (by omega)]; rfl)
 ·refine gT rfl (bF h6) <| mI rfl <| gT rfl (bF h6) <| V (run_ldRel underlying60 rfl rfl rfl (hH4.blk (i := 1) rfl)) <| gT rfl (bF h6) <| RL.callP rfl hH4 (c_clearanceref03_Points _  _) (run_call1 call84 rfl) <| fun w8 hH9 => gT rfl (bF h6) <| V (run_geq rfl rfl) <| V (run_pickF (bF h6) (v := B _) rfl) <| RL.nil <| CW.condP rfl (fun h11 => ?_) (fun h11 => ?_)
  ·refine SR <| va (v := .slice none 0 0) rfl <| have hH12 := hH9.nilRow 3 1; RL.nil <| CW.ret <| outR Tryz.results140 rfl hH12 (i := 0) rfl (by rw [reach_nil (by omega)]; rfl) (by rw [reach_nil (by omega)]; rfl)
  ·refine CW.skip <| SR <| mI rfl <| RL.new rfl hH9 (f := fun b => (.slice (some ⟨b, 0, none⟩) 1 1)) (run_mkL underlying111 rfl rfl (sz := 1) (vs := [I _]) rfl rfl (by decide) (by decide) rfl rfl) <| fun b15 w13 hH14 => ?_
   (try simp only [clX] at hH14)
   have hH16 := hH14.blkRow 1 1 rfl (by decide)
   refine V (run_assign (by conv => lhs; whnf)) ?_
   refine RL.nil <| CW.seq <| SR <| va (v := I 0) rfl <| RL.nil <| CW.block <| CW.loop (G := Int × (List Int) × Value) (fun ⟨a, l, v5⟩ s' w' => (Fr (rg 5 3 (rg 18 29 [])) _ s') ∧ (Hp w w' (.row v5 3 1 (l.length) (l.map I) :: _)) ∧ (s' 5 = v5) ∧ (s' 6 = I a) ∧ (0 ≤ a) ∧ (a ≤ l.length) ∧ (Okl r l) ∧ (bfs r (65 - a.toNat) a.toNat l = reachL r i)) (fun ⟨a, l, v5⟩ => ((65 : Int) - a).toNat) ((0, [i], (.slice (some ⟨b15, 0, none⟩) 1 1 : Value))) ⟨Fr.refl _ _, hH16, rfl, rfl, (by omega), (by simp), Okl.one (by omega), (by rw [reachL, if_pos (isP_iff.2 (by omega))]; rfl)⟩ <| ?_
   rintro ⟨a, l, v5⟩ sg17 w17 ⟨fr17, hH17, e5_17, e6_17, a0, a1, hok, hl⟩
   have e2_17 := fr17.pp 2 rfl rfl
   have e4_17 := (fr17 4 rfl).trans (by conv => lhs; whnf)
   refine CW.seq <| SR <| vm e6_17 <| vm e5_17 <| V (run_lenSl (hH17.sl (i := 0) rfl) rfl underlying111 rfl) <| V (run_lss rfl rfl) <| RL.nil <| CW.condP rfl (fun h19 => ?_) (fun h19 => ?_)
   ·refine CW.skip <| CW.seq <| CW.block <| SR <| va (v := I 0) rfl <| RL.nil <| CW.block <| CW.loop (G := Int × (List Int) × Value) (fun ⟨b, l2, v5⟩ s' w' => (Fr (5 :: (7 :: (rg 24 23 []))) _ s') ∧ (Hp w w' (.row v5 3 1 (l2.length) (l2.map I) :: _)) ∧ (s' 5 = v5) ∧ (s' 7 = I b) ∧ (0 ≤ b) ∧ (b ≤ pts r) ∧ (l2 = scan r (l.getD a.toNat 0) l b.toNat) ∧ (Okl r l2) ∧ (l.length ≤ l2.length) ∧ (l2.getD a.toNat 0 = l.getD a.toNat 0)) (fun ⟨b, l2, v5⟩ => (pts r - b).toNat) ((0, l, (v5 : Value))) ⟨Fr.refl _ _, hH17, e5_17, rfl, (by omega), (by omega), rfl, hok, Nat.le_refl _, rfl⟩ <| ?_
    rintro ⟨b, l2, v5⟩ sg20 w20 ⟨fr20, hH20, e5_20, e7_20, b0, b1, h2, hok2, hle, hget⟩
    have e2_20 := (fr20 2 rfl).trans e2_17
    have e6_20 := (fr20 6 rfl).trans e6_17
    refine CW.seq <| SR <| vm e7_20 <| V (run_ldRel underlying60 rfl rfl e2_20 (hH20.blk (i := 2) rfl)) <| RL.callP rfl hH20 (c_clearanceref03_Points _  _) (run_call1 call84 rfl) <| fun w21 hH22 => V (run_lss rfl rfl) <| RL.nil <| CW.condP rfl (fun h24 => ?_) (fun h24 => ?_)
    ·refine CW.skip <| CW.seq <| CW.block <| CW.seq <| CW.regionD (by kernel_rfl) hH22 <| fun w25 hH26 => have zh26 := hH26.sub sR; AT 0 rfl zh26 (fun w hS => run_ldRel underlying60 rfl rfl e2_20 (hS.blk (i := 2) rfl)) <| AQ 1 rfl zh26 (run_move e5_20) <| AQ 2 rfl zh26 (run_move e6_20) <| AT 3 rfl zh26 (fun w hS => run_indexAddrS (hS.sl (i := 0) rfl) underlying111 sizeOf3 rfl rfl (by omega)) <| AT 4 rfl zh26 (fun w hS => run_ld underlying3 rfl rfl ((hS.sl (i := 0) rfl).cell _ _ (map_at (by omega)))) <| AQ 5 rfl zh26 (run_move e7_20) <| A1 6 <| AO.callP rfl gnone rfl hH26 sR (c_clearanceref03_Has r (l2.getD a.toNat 0) b _) (run_call3 call113 rfl rfl rfl) <| fun w27 hH28 => have zh28 := hH28.sub sR; AQ 7 rfl zh28 (mV (B _) rfl) <| AN.split (dj := 37) rfl (fun h30 => ?_) (fun h30 => ?_)
     ·refine AG 8 rfl rfl (bR (c := true) h30) (hH28.sub sR) (fun w hS => run_move e5_20) <| AG 9 rfl rfl (bR (c := true) h30) (hH28.sub sR) (fun w hS => run_move e7_20) <| A1 10 <| AO.callP rfl (gsome rfl (bR (c := true) h30)) rfl hH28 sR (c_clearanceref03_In _ _ _  _ (hH28.sl (i := 0) rfl)) (run_call2 call146 rfl rfl) <| fun w31 hH32 => AG 11 rfl rfl (bR (c := true) h30) (hH32.sub sR) (fun w hS => run_not rfl) <| AQ 12 rfl (hH32.sub sR) (run_pickT (bR (c := true) h30) (v := B _) rfl) <| AD <| CW.cond rfl (fun h35 => ?_) (fun h35 => ?_)
      ·refine CW.region <| vm e5_20 <| vm e7_20 <| RL.new rfl hH32 (f := fun b => (.slice (some ⟨b, 0, none⟩) 1 1)) (run_mkL underlying111 rfl rfl (sz := 1) (vs := [I _]) rfl rfl (by decide) (by decide) rfl rfl) <| fun b38 w36 hH37 => ?_
       (try simp only [clX] at hH37)
       refine RL.app rfl hH37 (i := 1) rfl (hH37.slBlk (i := 0) (n := 1) (sz := 1) rfl rfl (by decide)) rfl rfl underlying111 rfl rfl (size := 1) (bytes := 8) rfl rfl rfl (by decide) (by simp [Value.oneCell']) (by have := hok2.len; omega) (by have := hok2.len; simp only [maxLen]; omega) <| fun v39 w40 hH41 => ?_
       simp only [z2] at hH41
       refine V (run_assign (by conv => lhs; whnf)) ?_
       refine RL.nil <| CW.region <| vm e7_20 <| V (run_add rfl rfl (by omega)) <| aI rfl <| RL.nil <| ?_
       refine ⟨(b + 1, l2 ++ [b], v39), ?_, fr20.u4.u4.u4.u4.u4.u4.u1, (Hp.conv (hH41.sub (sQ sR)) (by simp)), rfl, (congrArg I (by rfl)), ?_, ?_, ?_, ?_, ?_, ?_⟩
       ·((try dsimp only); omega)
       ·omega
       ·omega
       ·rw [hget] at *; ((rw [h2] at *; exact scan_yes b0 ‹_› (nt ‹_›)))
       ·exact hok2.add ⟨b0, ‹_›⟩ (nt ‹_›)
       ·(simp; omega)
       ·(rw [← hget, List.getD_eq_getElem?_getD, List.getD_eq_getElem?_getD, List.getElem?_append_left (by omega)])
      ·refine CW.skip <| CW.region <| vm e7_20 <| V (run_add rfl rfl (by omega)) <| aI rfl <| RL.nil <| ?_
       refine ⟨(b + 1, l2, v5), ?_, fr20.u4.u4.u4.u4.u4, (Hp.conv hH32 (by rfl)), e5_20, (congrArg I (by rfl)), ?_, ?_, ?_, ?_, ?_, ?_⟩
       ·((try dsimp only); omega)
       ·omega
       ·omega
       ·rw [hget] at *; ((rw [h2] at *; exact scan_no2 b0 (nf ‹_›)))
       ·exact hok2
       ·exact hle
       ·exact hget
     ·refine AK 8 rfl rfl (bR (c := false) h30) (hH28.sub sR) <| AK 9 rfl rfl (bR (c := false) h30) (hH28.sub sR) <| AK 10 rfl rfl (bR (c := false) h30) (hH28.sub sR) <| AK 11 rfl rfl (bR (c := false) h30) (hH28.sub sR) <| AQ 12 rfl zh28 (run_pickF (bR (c := false) h30) (v := B false) rfl) <| AD <| CW.condF rfl <| CW.skip <| CW.region <| vm e7_20 <| V (run_add rfl rfl (by omega)) <| aI rfl <| RL.nil <| ?_
      refine ⟨(b + 1, l2, v5), ?_, fr20.u4.u4.u4.u4.u4, (Hp.conv hH28 (by rfl)), e5_20, (congrArg I (by rfl)), ?_, ?_, ?_, ?_, ?_, ?_⟩
      ·((try dsimp only); omega)
      ·omega
      ·omega
      ·rw [hget] at *; ((rw [h2] at *; exact scan_no1 b0 ‹_›))
      ·exact hok2
      ·exact hle
      ·exact hget
    ·refine CW.exit (id := 2) rfl <| CW.region <| vm e6_20 <| V (run_add rfl rfl (by have := hok.len; omega)) <| aI rfl <| RL.nil <| ?_
     refine ⟨(a + 1, l2, v5), ?_, (((fr17.u4.u1).t fr20 rfl)).u4.u1.u1.u1, (Hp.conv hH22 (by rfl)), e5_20, (congrArg I (by rfl)), ?_, ?_, ?_, ?_⟩
     ·have := hok.len; (try dsimp only); omega
     ·omega
     ·omega
     ·exact hok2
     ·(rw [h2, show b = pts r by omega, ← bfs_step a0 ‹_› hok.len]; exact hl)
   ·refine CW.exit (id := 0) rfl <| SR <| vm e5_17 <| ?_
    refine V (run_assign (by conv => lhs; whnf)) ?_
    refine RL.nil <| CW.ret <| outR Tryz.results140 rfl hH17 (i := 0) rfl (by rw [← hl, bfs_end a0 ‹_›]) (by rw [← hl, bfs_end a0 ‹_›])
theorem c_clearanceref03_Closure (r : Rl) (w : World) : Calls Tryz.prog 122 #[.agg (relC r)] w (Pure (.agg (relC (cloR r))) w) := by
 have hp := pts_bd r
 refine enter Tryz.func122 rfl Tryz.ntmps122 rfl <| have hH := Hp.start w; SR <| RL.new rfl hH (f := fun b => (.pointer (some ⟨b, 0, none⟩))) (run_box (v := .agg _) rfl) <| fun b3 w1 hH2 => RL.new rfl hH2 (f := fun b => (.pointer (some ⟨b, 0, none⟩))) (run_alloc zero_rel) <| fun b6 w4 hH5 => RL.nil <| SR <| V (run_ldRel underlying60 rfl rfl rfl (hH5.blk (i := 1) rfl)) <| RL.callP rfl hH5 (c_clearanceref03_Points _  _) (run_call1 call84 rfl) <| fun w7 hH8 => V (run_bld (vs := [(0, I _)]) rfl (built_rel _)) <| RL.new rfl hH8 (f := fun b => (.pointer (some ⟨b, 0, none⟩))) (run_alloc zero_rel) <| fun b11 w9 hH10 => RL.set hH10 (i := 0) rfl (run_stRel rfl rfl rfl (hH10.blk (i := 0) rfl)) <| fun w12 hH13 => ?_
 simp only [z2] at hH13
 refine RL.nil <| CW.seq <| SR <| va (v := I 0) rfl <| RL.nil <| CW.block <| have hz : (⟨pts r, fun _ => 0#64⟩ : Rl).n = pts r := rfl; CW.loop (G := Int × Rl) (fun ⟨k, r1⟩ s' w' => (Fr (4 :: (rg 8 13 [])) _ s') ∧ (Hp w w' (.blk b11 (.cells (relC r1) 60 (0, 0)) :: _)) ∧ (s' 4 = I k) ∧ (0 ≤ k) ∧ (k ≤ pts r) ∧ (r1 = fillR (pts r) (fun i => ofl (reachL r i)) k)) (fun ⟨k, r1⟩ => (pts r - k).toNat) ((0, ⟨pts r, fun _ => 0#64⟩)) ⟨Fr.refl _ _, hH13, rfl, (by omega), (by omega), fill_zero _ _⟩ <| ?_
 rintro ⟨k, r1⟩ sg14 w14 ⟨fr14, hH14, e4_14, h0, hk, hr⟩
 have e1_14 := fr14.pp 1 rfl rfl
 have e2_14 := fr14.pp 2 rfl rfl
 have e3_14 := fr14.pp 3 rfl rfl
 have hn : r1.n = pts r := by rw [hr]; rfl
 refine CW.seq <| SR <| vm e4_14 <| V (fA underlying60 0 rfl sizeOf3 e3_14) <| V (run_ld underlying3 rfl rfl (hH14.cell (i := 0) rfl (relC_N _))) <| V (run_lss rfl rfl) <| RL.nil <| CW.condP rfl (fun h16 => ?_) (fun h16 => ?_)
 ·refine CW.skip <| CW.seq <| CW.block <| CW.region <| vm e4_14 <| V (run_ldRel underlying60 rfl rfl e1_14 (hH14.blk (i := 2) rfl)) <| vm e4_14 <| RL.callR rfl hH14 (c_clearanceref03_Reach _ _  _) (run_call2 call140 rfl rfl) <| fun v19 w17 hH18 => RL.callP rfl hH18 (c_clearanceref01_Of _ _  _ (hH18.sl (i := 0) rfl)) (run_call1 call114 rfl) <| fun w20 hH21 => V (fA underlying60 1 rfl sizeOf58 e3_14) <| V (run_indexAddrA underlying58 sizeOf37 rfl rfl (by omega)) <| RL.set hH21 (i := 1) rfl (run_st rfl rfl (v := U _) rfl rfl rfl (hH21.blk (i := 1) rfl) (by rw [relC_size]; omega)) <| fun w22 hH23 => ?_
  simp only [z2] at hH23
  rw [relC_put] at hH23
  refine RL.nil <| CW.region <| vm e4_14 <| V (run_add rfl rfl (by omega)) <| aI rfl <| RL.nil <| ?_
  refine ⟨(k + 1, _), ?_, fr14.u4.u4.u4.u1.u1, (hH23.sub (sQ sR)), (congrArg I (by rfl)), ?_, ?_, ?_⟩
  ·((try dsimp only); omega)
  ·omega
  ·omega
  ·rw [hr]; exact fill_put h0 (by rw [Int.toNat_of_nonneg h0])
 ·refine CW.exit (id := 0) rfl <| SR <| V (run_ldRel underlying60 rfl rfl e3_14 (hH14.blk (i := 0) rfl)) <| RL.set hH14 (i := 1) rfl (run_stRel rfl e2_14 rfl (hH14.blk (i := 1) rfl)) <| fun w24 hH25 => ?_
  simp only [z2] at hH25
  refine RL.nil <| CW.ret <| outC Tryz.results122 e2_14 hH25 (i := 1) rfl underlying60 rfl rfl ⟨?_, hH25.below⟩
  (rw [hr, show k = pts r by omega, clo_ref])
theorem c_relate_Same (a b : Rl) (w : World) : Calls Tryz.prog 101 #[.agg (relC a), .agg (relC b)] w (Pure (B (decide ((plainR a).eq (plainR b)))) w) := by
 refine enter Tryz.func101 rfl Tryz.ntmps101 rfl <| have hH := Hp.start w; SR <| RL.new rfl hH (f := fun b => (.pointer (some ⟨b, 0, none⟩))) (run_box (v := .agg _) rfl) <| fun b3 w1 hH2 => RL.new rfl hH2 (f := fun b => (.pointer (some ⟨b, 0, none⟩))) (run_box (v := .agg _) rfl) <| fun b6 w4 hH5 => va (v := B false) rfl <| RL.nil <| CW.seq <| CW.regionD (by kernel_rfl) hH5 <| fun w7 hH8 => AT 0 rfl (hH8.sub sR) (fun w hS => run_ldRel underlying60 rfl rfl rfl (hS.blk (i := 1) rfl)) <| AT 2 rfl (hH8.sub sR) (fun w hS => run_ldRel underlying60 rfl rfl rfl (hS.blk (i := 0) rfl)) <| A1 1 <| AO.callP rfl gnone rfl hH8 sR (c_relate_plain _  _) (run_call1 call117 rfl) <| fun w9 hH10 => A1 3 <| AO.callP rfl gnone rfl hH10 sR (c_relate_plain _  _) (run_call1 call117 rfl) <| fun w11 hH12 => AQ 4 rfl (hH12.sub sR) (run_eqlRel relT_fact rfl rfl) <| AQ 5 rfl (hH12.sub sR) (aV (B _) rfl) <| AD <| CW.ret <| outP1 Tryz.results101 (congrArg B ?_) hH12.below
 rfl
theorem c_clearanceref03_Same (a b : Rl) (w : World) : Calls Tryz.prog 121 #[.agg (relC a), .agg (relC b)] w (Pure (B (decide ((plainR a).eq (plainR b)))) w) := by
 refine enter Tryz.func121 rfl Tryz.ntmps121 rfl <| have hH := Hp.start w; SR <| RL.new rfl hH (f := fun b => (.pointer (some ⟨b, 0, none⟩))) (run_box (v := .agg _) rfl) <| fun b3 w1 hH2 => RL.new rfl hH2 (f := fun b => (.pointer (some ⟨b, 0, none⟩))) (run_box (v := .agg _) rfl) <| fun b6 w4 hH5 => va (v := B false) rfl <| RL.nil <| CW.seq <| CW.regionD (by kernel_rfl) hH5 <| fun w7 hH8 => AT 0 rfl (hH8.sub sR) (fun w hS => run_ldRel underlying60 rfl rfl rfl (hS.blk (i := 1) rfl)) <| AT 2 rfl (hH8.sub sR) (fun w hS => run_ldRel underlying60 rfl rfl rfl (hS.blk (i := 0) rfl)) <| A1 1 <| AO.callP rfl gnone rfl hH8 sR (c_clearanceref03_Plain _  _) (run_call1 call139 rfl) <| fun w9 hH10 => A1 3 <| AO.callP rfl gnone rfl hH10 sR (c_clearanceref03_Plain _  _) (run_call1 call139 rfl) <| fun w11 hH12 => AQ 4 rfl (hH12.sub sR) (run_eqlRel relT_fact rfl rfl) <| AQ 5 rfl (hH12.sub sR) (aV (B _) rfl) <| AD <| CW.ret <| outP1 Tryz.results121 (congrArg B ?_) hH12.below
 rfl
theorem c_relate_Closed (r : Rl) (w : World) : Calls Tryz.prog 118 #[.agg (relC r)] w (Pure (B (decide ((plainR r).eq (cloR r)))) w) := by
 refine enter Tryz.func118 rfl Tryz.ntmps118 rfl <| have hH := Hp.start w; SR <| RL.new rfl hH (f := fun b => (.pointer (some ⟨b, 0, none⟩))) (run_box (v := .agg _) rfl) <| fun b3 w1 hH2 => va (v := B false) rfl <| RL.nil <| CW.seq <| CW.regionD (by kernel_rfl) hH2 <| fun w4 hH5 => AT 0 rfl (hH5.sub sR) (fun w hS => run_ldRel underlying60 rfl rfl rfl (hS.blk (i := 0) rfl)) <| AT 2 rfl (hH5.sub sR) (fun w hS => run_ldRel underlying60 rfl rfl rfl (hS.blk (i := 0) rfl)) <| A1 1 <| AO.callP rfl gnone rfl hH5 sR (c_relate_plain _  _) (run_call1 call117 rfl) <| fun w6 hH7 => A1 3 <| AO.callP rfl gnone rfl hH7 sR (c_relate_Closure _  _) (run_call1 call137 rfl) <| fun w8 hH9 => AQ 4 rfl (hH9.sub sR) (run_eqlRel relT_fact rfl rfl) <| AQ 5 rfl (hH9.sub sR) (aV (B _) rfl) <| AD <| CW.ret <| outP1 Tryz.results118 (congrArg B ?_) hH9.below
 rfl
theorem c_clearanceref03_Closed (r : Rl) (w : World) : Calls Tryz.prog 105 #[.agg (relC r)] w (Pure (B (decide ((plainR r).eq (cloR r)))) w) := by
 refine enter Tryz.func105 rfl Tryz.ntmps105 rfl <| have hH := Hp.start w; SR <| RL.new rfl hH (f := fun b => (.pointer (some ⟨b, 0, none⟩))) (run_box (v := .agg _) rfl) <| fun b3 w1 hH2 => va (v := B false) rfl <| RL.nil <| CW.seq <| CW.regionD (by kernel_rfl) hH2 <| fun w4 hH5 => AT 0 rfl (hH5.sub sR) (fun w hS => run_ldRel underlying60 rfl rfl rfl (hS.blk (i := 0) rfl)) <| AT 1 rfl (hH5.sub sR) (fun w hS => run_ldRel underlying60 rfl rfl rfl (hS.blk (i := 0) rfl)) <| A1 2 <| AO.callP rfl gnone rfl hH5 sR (c_clearanceref03_Closure _  _) (run_call1 call122 rfl) <| fun w6 hH7 => A1 3 <| AO.callP rfl gnone rfl hH7 sR (c_clearanceref03_Same _ _  _) (run_call2 call121 rfl rfl) <| fun w8 hH9 => AQ 4 rfl (hH9.sub sR) (aV (B _) rfl) <| AD <| CW.ret <| outP1 Tryz.results105 (congrArg B ?_) hH9.below
 rw [plain_clo]
theorem c_relate_New (n : Int) (w : World) : Calls Tryz.prog 110 #[I n] w (Pure (.agg (relC (newR n))) w) := by
 refine enter Tryz.func110 rfl Tryz.ntmps110 rfl <| have hH := Hp.start w; SR <| RL.new rfl hH (f := fun b => (.pointer (some ⟨b, 0, none⟩))) (run_alloc zero_rel) <| fun b3 w1 hH2 => RL.nil <| SR <| mI rfl <| V (run_bld (vs := [(0, I _)]) rfl (built_rel _)) <| RL.callP rfl hH2 (c_relate_points _  _) (run_call1 call131 rfl) <| fun w4 hH5 => V (run_bld (vs := [(0, I _)]) rfl (built_rel _)) <| RL.set hH5 (i := 0) rfl (run_stRel rfl rfl rfl (hH5.blk (i := 0) rfl)) <| fun w6 hH7 => ?_
 simp only [z2] at hH7
 refine RL.nil <| CW.ret <| outC Tryz.results110 rfl hH7 (i := 0) rfl underlying60 rfl rfl ⟨?_, hH7.below⟩
 rfl
theorem c_relate_mutual (r : Rl) (i : Int) (w : World) (hT : Tab w) : Calls Tryz.prog 138 #[.agg (relC r), I i] w (Pure (U (mutualR r i)) w) := by
 refine enter Tryz.func138 rfl Tryz.ntmps138 rfl <| have hH := Hp.start w; SR <| RL.new rfl hH (f := fun b => (.pointer (some ⟨b, 0, none⟩))) (run_box (v := .agg _) rfl) <| fun b3 w1 hH2 => va (v := U 0#64) rfl <| RL.nil <| SR <| mI rfl <| RL.new rfl hH2 (f := fun b => (.slice (some ⟨b, 0, none⟩) 1 1)) (run_mkL underlying111 rfl rfl (sz := 1) (vs := [I _]) rfl rfl (by decide) (by decide) rfl rfl) <| fun b6 w4 hH5 => ?_
 (try simp only [clX] at hH5)
 refine RL.callP rfl hH5 (c_mask_Of _ [i] _ (hH5.slBlk (i := 0) (n := 1) (sz := 1) rfl rfl (by decide))) (run_call1 call128 rfl) <| fun w7 hH8 => aU rfl <| RL.nil <| CW.seq <| CW.regionD (by kernel_rfl) hH8 <| fun w9 hH10 => have zh10 := hH10.sub sR; AT 0 rfl zh10 (fun w hS => run_ldRel underlying60 rfl rfl rfl (hS.blk (i := 1) rfl)) <| AQ 1 rfl zh10 (mV (U _) rfl) <| AT 3 rfl zh10 (fun w hS => run_ldRel underlying60 rfl rfl rfl (hS.blk (i := 1) rfl)) <| AQ 4 rfl zh10 (mV (U _) rfl) <| A1 2 <| AO.callP rfl gnone rfl hH10 sR (c_relate_Up _ _  _ (hT.hp hH10)) (run_call2 call127 rfl rfl) <| fun w11 hH12 => A1 5 <| AO.callP rfl gnone rfl hH12 sR (c_relate_Down _ _  _) (run_call2 call129 rfl rfl) <| fun w13 hH14 => AQ 6 rfl (hH14.sub sR) (run_andU rfl rfl) <| AQ 7 rfl (hH14.sub sR) (aV (U _) rfl) <| AD <| CW.ret <| outP1 Tryz.results138 (congrArg U ?_) hH14.below
 rfl
theorem c_relate_Order (r : Rl) (w : World) (hT : Tab w) : Calls Tryz.prog 119 #[.agg (relC r)] w (Pure (B (orderB r)) w) := by
 have hp := pts_bd r
 refine enter Tryz.func119 rfl Tryz.ntmps119 rfl <| have hH := Hp.start w; SR <| RL.new rfl hH (f := fun b => (.pointer (some ⟨b, 0, none⟩))) (run_box (v := .agg _) rfl) <| fun b3 w1 hH2 => va (v := B false) rfl <| RL.nil <| CW.seq <| SR <| V (run_ldRel underlying60 rfl rfl rfl (hH2.blk (i := 0) rfl)) <| RL.callP rfl hH2 (c_relate_Closed _  _) (run_call1 call118 rfl) <| fun w4 hH5 => V (run_notP rfl) <| RL.nil <| CW.condP rfl (fun h9 => ?_) (fun h9 => ?_)
 ·refine SR <| va (v := B false) rfl <| RL.nil <| CW.ret <| outP1 Tryz.results119 (congrArg B ?_) hH5.below
  exact (order_no0 ‹_›).symm
 ·refine CW.skip <| CW.seq <| SR <| V (run_ldRel underlying60 rfl rfl rfl (hH5.blk (i := 0) rfl)) <| RL.callP rfl hH5 (c_relate_points _  _) (run_call1 call131 rfl) <| fun w10 hH11 => vm (v := I 0) rfl <| RL.nil <| CW.block <| have hc := Decidable.of_not_not ‹¬ ¬ (plainR r).eq (cloR r)›; CW.loop (G := Int) (fun k s' w' => (Fr (2 :: 3 :: (rg 9 11 [])) _ s') ∧ (Hp w w' _) ∧ (s' 9 = I k) ∧ (0 ≤ k) ∧ (k ≤ pts r) ∧ (∀ j : Int, 0 ≤ j → j < k → mutualR r j = ofl [j])) (fun k => (pts r - k).toNat) (0) ⟨Fr.refl _ _, hH11, rfl, (by omega), (by omega), fun j a b => absurd b (by omega)⟩ <| ?_
  rintro k sg12 w12 ⟨fr12, hH12, e9_12, h0, hk, hf⟩
  have e1_12 := fr12.pp 1 rfl rfl
  have e8_12 := fr12.ii 8 rfl rfl
  refine SR <| V (run_lss e9_12 e8_12) <| RL.nil <| CW.seq <| CW.condP rfl (fun h14 => ?_) (fun h14 => ?_)
  ·refine CW.skip <| CW.seq <| CW.block <| SR <| vm e9_12 <| aI rfl <| RL.nil <| SR <| V (run_ldRel underlying60 rfl rfl e1_12 (hH12.blk (i := 0) rfl)) <| mI rfl <| RL.callP rfl hH12 (c_relate_mutual _ _  _ (hT.hp hH12)) (run_call2 call138 rfl rfl) <| fun w15 hH16 => mI rfl <| RL.new rfl hH16 (f := fun b => (.slice (some ⟨b, 0, none⟩) 1 1)) (run_mkL underlying111 rfl rfl (sz := 1) (vs := [I _]) rfl rfl (by decide) (by decide) rfl rfl) <| fun b19 w17 hH18 => ?_
   (try simp only [clX] at hH18)
   refine RL.callP rfl hH18 (c_mask_Of _ [k] _ (hH18.slBlk (i := 0) (n := 1) (sz := 1) rfl rfl (by decide))) (run_call1 call128 rfl) <| fun w20 hH21 => V (run_neqU rfl rfl) <| RL.nil <| CW.condP rfl (fun h23 => ?_) (fun h23 => ?_)
   ·refine SR <| va (v := B false) rfl <| RL.nil <| CW.ret <| outP1 Tryz.results119 (congrArg B ?_) hH21.below
    exact (order_no hc ⟨h0, by omega⟩ ‹_›).symm
   ·refine CW.skip <| CW.region <| V (run_add e9_12 rfl (by omega)) <| mI rfl <| RL.nil <| ?_
    refine ⟨k + 1, ?_, fr12.u4.u4.u4, (hH21.sub (sQ sR)), (congrArg I (by rfl)), ?_, ?_, ?_⟩
    ·((try dsimp only); omega)
    ·omega
    ·omega
    ·exact fun j a b => if e : j = k then e ▸ Decidable.of_not_not ‹_› else hf j a (by omega)
  ·refine CW.exit (id := 0) rfl <| SR <| va (v := B true) rfl <| RL.nil <| CW.ret <| outP1 Tryz.results119 (congrArg B ?_) hH12.below
   exact (order_yes hc fun j a b => hf j a (by omega)).symm
theorem c_clearanceref03_Order (r : Rl) (w : World) : Calls Tryz.prog 106 #[.agg (relC r)] w (Pure (B (orderB r)) w) := by
 have hp := pts_bd r
 refine enter Tryz.func106 rfl Tryz.ntmps106 rfl <| have hH := Hp.start w; SR <| RL.new rfl hH (f := fun b => (.pointer (some ⟨b, 0, none⟩))) (run_box (v := .agg _) rfl) <| fun b3 w1 hH2 => va (v := B false) rfl <| RL.nil <| CW.seq <| SR <| va (v := I 0) rfl <| RL.nil <| CW.block <| CW.loop (G := Int) (fun k s' w' => (Fr (rg 2 24 []) _ s') ∧ (Hp w w' _) ∧ (s' 3 = I k) ∧ (0 ≤ k) ∧ (k ≤ pts r) ∧ (∀ i j : Int, 0 ≤ j → j < i → i < k → (hasR r i j && hasR r j i) = false)) (fun k => (pts r - k).toNat) (0) ⟨Fr.refl _ _, hH2, rfl, (by omega), (by omega), fun i j a b c => absurd c (by omega)⟩ <| ?_
 rintro k sg4 w4 ⟨fr4, hH4, e3_4, k0, k1, hf⟩
 have e1_4 := fr4.pp 1 rfl rfl
 refine CW.seq <| SR <| vm e3_4 <| V (run_ldRel underlying60 rfl rfl e1_4 (hH4.blk (i := 0) rfl)) <| RL.callP rfl hH4 (c_clearanceref03_Points _  _) (run_call1 call84 rfl) <| fun w5 hH6 => V (run_lss rfl rfl) <| RL.nil <| CW.condP rfl (fun h8 => ?_) (fun h8 => ?_)
 ·refine CW.skip <| CW.seq <| CW.block <| SR <| va (v := I 0) rfl <| RL.nil <| CW.block <| CW.loop (G := Int) (fun j s' w' => (Fr (2 :: (4 :: (rg 11 15 []))) _ s') ∧ (Hp w w' _) ∧ (s' 4 = I j) ∧ (0 ≤ j) ∧ (j ≤ k) ∧ (∀ x : Int, 0 ≤ x → x < j → (hasR r k x && hasR r x k) = false)) (fun j => (k - j).toNat) (0) ⟨Fr.refl _ _, hH6, rfl, (by omega), (by omega), fun x a b => absurd b (by omega)⟩ <| ?_
  rintro j sg9 w9 ⟨fr9, hH9, e4_9, j0, j1, hg⟩
  have e1_9 := (fr9 1 rfl).trans e1_4
  have e3_9 := (fr9 3 rfl).trans e3_4
  refine CW.seq <| SR <| vm e4_9 <| vm e3_9 <| V (run_lss rfl rfl) <| RL.nil <| CW.condP rfl (fun h11 => ?_) (fun h11 => ?_)
  ·refine CW.skip <| CW.seq <| CW.block <| SR <| V (run_ldRel underlying60 rfl rfl e1_9 (hH9.blk (i := 0) rfl)) <| vm e3_9 <| vm e4_9 <| RL.callP rfl hH9 (c_clearanceref03_Has _ _ _  _) (run_call3 call113 rfl rfl rfl) <| fun w12 hH13 => mB rfl <| RL.split (dj := 20) rfl (fun h15 => ?_) (fun h15 => ?_)
   ·refine gT rfl (bR (c := true) h15) <| V (run_ldRel underlying60 rfl rfl e1_9 (hH13.blk (i := 0) rfl)) <| gT rfl (bR (c := true) h15) <| vm e4_9 <| gT rfl (bR (c := true) h15) <| vm e3_9 <| gT rfl (bR (c := true) h15) <| RL.callP rfl hH13 (c_clearanceref03_Has _ _ _  _) (run_call3 call113 rfl rfl rfl) <| fun w16 hH17 => V (run_pickT (bR (c := true) h15) (v := B _) rfl) <| RL.nil <| CW.cond rfl (fun h19 => ?_) (fun h19 => ?_)
    ·refine SR <| va (v := B false) rfl <| RL.nil <| CW.ret <| outP1 Tryz.results106 (congrArg B ?_) hH17.below
     exact (order_refno ‹hasR r k j = true› ‹hasR r j k = true› ‹_›).symm
    ·refine CW.skip <| CW.region <| vm e4_9 <| V (run_add rfl rfl (by omega)) <| aI rfl <| RL.nil <| ?_
     refine ⟨j + 1, ?_, fr9.u4.u4.u4.u4, hH17, (congrArg I (by rfl)), ?_, ?_, ?_⟩
     ·((try dsimp only); omega)
     ·omega
     ·omega
     ·exact fun x u v => if e : x = j then e ▸ (by rw [‹hasR r j k = false›]; simp) else hg x u (by omega)
   ·refine gF rfl (bR (c := false) h15) <| gF rfl (bR (c := false) h15) <| gF rfl (bR (c := false) h15) <| gF rfl (bR (c := false) h15) <| V (run_pickF (bR (c := false) h15) (v := B false) rfl) <| RL.nil <| CW.condF rfl <| CW.skip <| CW.region <| vm e4_9 <| V (run_add rfl rfl (by omega)) <| aI rfl <| RL.nil <| ?_
    refine ⟨j + 1, ?_, fr9.u4.u4.u4.u4, hH13, (congrArg I (by rfl)), ?_, ?_, ?_⟩
    ·((try dsimp only); omega)
    ·omega
    ·omega
    ·exact fun x u v => if e : x = j then e ▸ (by rw [‹hasR r k j = false›]; rfl) else hg x u (by omega)
  ·refine CW.exit (id := 2) rfl <| CW.region <| vm e3_9 <| V (run_add rfl rfl (by omega)) <| aI rfl <| RL.nil <| ?_
   refine ⟨k + 1, ?_, (((fr4.u4.u1).t fr9 rfl)).u4.u1.u1, hH9, (congrArg I (by rfl)), ?_, ?_, ?_⟩
   ·((try dsimp only); omega)
   ·omega
   ·omega
   ·exact fun i x u v y => if e : i = k then e ▸ hg x u (by omega) else hf i x u v (by omega)
 ·refine CW.exit (id := 0) rfl <| SR <| V (run_ldRel underlying60 rfl rfl e1_4 (hH6.blk (i := 0) rfl)) <| RL.callP rfl hH6 (c_clearanceref03_Closed _  _) (run_call1 call105 rfl) <| fun w20 hH21 => aB rfl <| RL.nil <| CW.ret <| outP1 Tryz.results106 (congrArg B ?_) hH21.below
  exact (order_ref ‹_› hf).symm
theorem c_hasse_in (r : Rl) (i : Int) (w : World) : Calls Tryz.prog 144 #[.agg (relC r), I i] w (Pure (B (isP r i)) w) := by
 have hp := pts_bd r
 have hnn : (newR r.n).n = pts r := rfl
 refine enter Tryz.func144 rfl Tryz.ntmps144 rfl <| have hH := Hp.start w; SR <| RL.new rfl hH (f := fun b => (.pointer (some ⟨b, 0, none⟩))) (run_box (v := .agg _) rfl) <| fun b3 w1 hH2 => va (v := B false) rfl <| RL.nil <| SR <| mI rfl <| V (run_geq rfl rfl) <| mB rfl <| RL.splitP (dj := 7) rfl (fun h5 => ?_) (fun h5 => ?_)
 ·refine gT rfl (bT h5) <| mI rfl <| gT rfl (bT h5) <| V (fA underlying60 0 rfl sizeOf3 rfl) <| gT rfl (bT h5) <| V (run_ld underlying3 rfl rfl (hH2.cell (i := 0) rfl (relC_N _))) <| gT rfl (bT h5) <| RL.callP rfl hH2 (c_relate_New _  _) (run_call1 call110 rfl) <| fun w6 hH7 => gT rfl (bT h5) <| V (run_field underlying60 rfl isAgg3 rfl (relC_N _)) <| gT rfl (bT h5) <| V (run_lss rfl rfl) <| V (run_pickT (bT h5) (v := B _) rfl) <| aB rfl <| RL.nil <| CW.ret <| outP1 Tryz.results144 (congrArg B ?_) hH7.below
  (rw [isP, Bool.eq_iff_iff]; simp only [decide_eq_true_eq, Bool.false_eq_true, false_iff]; omega)
 ·refine gF rfl (bF h5) <| gF rfl (bF h5) <| gF rfl (bF h5) <| gF rfl (bF h5) <| gF rfl (bF h5) <| gF rfl (bF h5) <| V (run_pickF (bF h5) (v := B false) rfl) <| aB rfl <| RL.nil <| CW.ret <| outP1 Tryz.results144 (congrArg B ?_) hH2.below
  (rw [isP, Bool.eq_iff_iff]; simp only [decide_eq_true_eq, Bool.false_eq_true, false_iff]; omega)
theorem c_hasse_above (r : Rl) (i : Int) (w : World) (hT : Tab w) : Calls Tryz.prog 134 #[.agg (relC r), I i] w (Pure (U (aboveR r i)) w) := by
 refine enter Tryz.func134 rfl Tryz.ntmps134 rfl <| have hH := Hp.start w; SR <| RL.new rfl hH (f := fun b => (.pointer (some ⟨b, 0, none⟩))) (run_box (v := .agg _) rfl) <| fun b3 w1 hH2 => va (v := U 0#64) rfl <| RL.nil <| CW.seq <| CW.regionD (by kernel_rfl) hH2 <| fun w4 hH5 => AT 0 rfl (hH5.sub sR) (fun w hS => run_ldRel underlying60 rfl rfl rfl (hS.blk (i := 0) rfl)) <| AQ 1 rfl (hH5.sub sR) (mV (I _) rfl) <| A1 2 <| AO.new rfl gnone rfl hH5 sR (f := fun b => .slice (some ⟨b, 0, none⟩) 1 1) (run_mkL underlying111 rfl rfl (sz := 1) (vs := [I _]) rfl rfl (by decide) (by decide) rfl rfl) <| fun b8 w6 hH7 => ?_
 (try simp only [clX] at hH7)
 refine A1 3 <| AO.callP rfl gnone rfl hH7 (sQ sR) (c_mask_Of _ [i] _ (hH7.slBlk (i := 0) (n := 1) (sz := 1) rfl rfl (by decide))) (run_call1 call128 rfl) <| fun w9 hH10 => A1 4 <| AO.callP rfl gnone rfl hH10 (sQ sR) (c_relate_Up _ _  _ (hT.hp hH10)) (run_call2 call127 rfl rfl) <| fun w11 hH12 => AQ 5 rfl (hH12.sub (sQ sR)) (aV (U _) rfl) <| AD <| CW.ret <| outP1 Tryz.results134 (congrArg U ?_) hH12.below
 rfl
theorem c_hasse_below (r : Rl) (i : Int) (w : World) (hT : Tab w) : Calls Tryz.prog 132 #[.agg (relC r), I i] w (Pure (U (belowR r i)) w) := by
 refine enter Tryz.func132 rfl Tryz.ntmps132 rfl <| have hH := Hp.start w; SR <| RL.new rfl hH (f := fun b => (.pointer (some ⟨b, 0, none⟩))) (run_box (v := .agg _) rfl) <| fun b3 w1 hH2 => va (v := U 0#64) rfl <| RL.nil <| CW.seq <| SR <| V (run_ldRel underlying60 rfl rfl rfl (hH2.blk (i := 0) rfl)) <| mI rfl <| RL.callP rfl hH2 (c_hasse_in _ _  _) (run_call2 call144 rfl rfl) <| fun w4 hH5 => V (run_not rfl) <| RL.nil <| CW.cond rfl (fun h8 => ?_) (fun h8 => ?_)
 ·refine SR <| va (v := U 0#64) rfl <| RL.nil <| CW.ret <| outP1 Tryz.results132 (congrArg U ?_) hH5.below
  rw [belowR, if_neg (by simpa using ‹(!isP r i) = true›)]
 ·refine CW.skip <| CW.seq <| CW.regionD (by kernel_rfl) hH5 <| fun w9 hH10 => AT 0 rfl (hH10.sub sR) (fun w hS => run_ldRel underlying60 rfl rfl rfl (hS.blk (i := 0) rfl)) <| AQ 1 rfl (hH10.sub sR) (mV (I _) rfl) <| A1 2 <| AO.new rfl gnone rfl hH10 sR (f := fun b => .slice (some ⟨b, 0, none⟩) 1 1) (run_mkL underlying111 rfl rfl (sz := 1) (vs := [I _]) rfl rfl (by decide) (by decide) rfl rfl) <| fun b13 w11 hH12 => ?_
  (try simp only [clX] at hH12)
  refine A1 3 <| AO.callP rfl gnone rfl hH12 (sQ sR) (c_mask_Of _ [i] _ (hH12.slBlk (i := 0) (n := 1) (sz := 1) rfl rfl (by decide))) (run_call1 call128 rfl) <| fun w14 hH15 => A1 4 <| AO.callP rfl gnone rfl hH15 (sQ sR) (c_relate_Down _ _  _) (run_call2 call129 rfl rfl) <| fun w16 hH17 => AQ 5 rfl (hH17.sub (sQ sR)) (aV (U _) rfl) <| AD <| CW.ret <| outP1 Tryz.results132 (congrArg U ?_) hH17.below
  rw [belowR, if_pos (by simpa using ‹(!isP r i) = false›)]
theorem c_hasse_nearest (r : Rl) (i j : Int) (f : FuncId) (gg : Int → BitVec 64) (w : World) (hf : ∀ args w, (callFunc f args).run Tryz.prog w = .ok (.enter f args) w) (go : ∀ i w, Tab w → Calls Tryz.prog f #[.agg (relC r), I i] w (Pure (U (gg i)) w)) (hn : ∀ u, hasB (gg i &&& gg j) u = true → u < pts r) (hT : Tab w) : Calls Tryz.prog 133 #[.agg (relC r), I i, I j, .func (.func f) #[] #[]] w (Pure (.tuple #[I (nearV gg (pts r) i j).1, B (nearV gg (pts r) i j).2]) w) := by
 have hl := lst_len (gg i &&& gg j)
 refine enter Tryz.func133 rfl Tryz.ntmps133 rfl <| have hH := Hp.start w; SR <| RL.new rfl hH (f := fun b => (.pointer (some ⟨b, 0, none⟩))) (run_box (v := .agg _) rfl) <| fun b3 w1 hH2 => va (v := I 0) rfl <| va (v := B false) rfl <| RL.nil <| CW.seq <| CW.regionD (by kernel_rfl) hH2 <| fun w4 hH5 => have zh5 := hH5.sub sR; AQ 0 rfl zh5 (mV (.func _ _ _) rfl) <| AT 1 rfl zh5 (fun w hS => run_ldRel underlying60 rfl rfl rfl (hS.blk (i := 0) rfl)) <| AQ 2 rfl zh5 (mV (I _) rfl) <| AQ 4 rfl zh5 (mV (.func _ _ _) rfl) <| AT 5 rfl zh5 (fun w hS => run_ldRel underlying60 rfl rfl rfl (hS.blk (i := 0) rfl)) <| AQ 6 rfl zh5 (mV (I _) rfl) <| A1 3 <| AO.callP rfl gnone rfl hH5 sR (go _ _ (hT.hp hH5)) (run_callC2 hf (cs := []) rfl rfl rfl) <| fun w6 hH7 => A1 7 <| AO.callP rfl gnone rfl hH7 sR (go _ _ (hT.hp hH7)) (run_callC2 hf (cs := []) rfl rfl rfl) <| fun w8 hH9 => AQ 8 rfl (hH9.sub sR) (run_andU rfl rfl) <| AQ 9 rfl (hH9.sub sR) (aV (U _) rfl) <| AD <| CW.seq <| SR <| mU rfl <| RL.callR rfl hH9 (c_mask_List _  _ (hT.hp hH9)) (run_call1 call126 rfl) <| fun v12 w10 hH11 => V (run_lenSl (hH11.sl (i := 0) rfl) rfl underlying111 rfl) <| vm (v := I 0) rfl <| RL.nil <| CW.block <| CW.loop (G := Int) (fun a s' w' => (Fr (8 :: 9 :: (12 :: (rg 25 12 []))) _ s') ∧ (Hp w w' _) ∧ (s' 25 = I a) ∧ (0 ≤ a) ∧ (a ≤ (lst (gg i &&& gg j)).length) ∧ (∀ b : Int, 0 ≤ b → b < a → subB (gg i &&& gg j) (gg ((lst (gg i &&& gg j)).getD b.toNat 0)) = false)) (fun a => ((lst (gg i &&& gg j)).length - a).toNat) (0) ⟨Fr.refl _ _, hH11, rfl, (by omega), (by omega), fun b x y => absurd y (by omega)⟩ <| ?_
 rintro a sg13 w13 ⟨fr13, hH13, e25_13, a0, a1, hg⟩
 have e3_13 := fr13.vv 3 (a := .func _ _ _) rfl rfl
 have e4_13 := fr13.pp 4 rfl rfl
 have e10_13 := fr13.uu 10 rfl rfl
 have e23_13 := (fr13 23 rfl).trans (by conv => lhs; whnf)
 have e24_13 := fr13.ii 24 rfl rfl
 refine SR <| V (run_lss e25_13 e24_13) <| RL.nil <| CW.seq <| CW.condP rfl (fun h15 => ?_) (fun h15 => ?_)
 ·refine CW.skip <| CW.seq <| CW.block <| SR <| V (run_indexAddrS (hH13.sl (i := 0) rfl) underlying111 sizeOf3 e23_13 e25_13 (by omega)) <| V (run_ld underlying3 rfl rfl ((hH13.sl (i := 0) rfl).cell _ _ (map_at (by omega)))) <| aI rfl <| RL.nil <| SR <| vm e10_13 <| vm e3_13 <| V (run_ldRel underlying60 rfl rfl e4_13 (hH13.blk (i := 1) rfl)) <| mI rfl <| RL.callP rfl hH13 (go _ _ (hT.hp hH13)) (run_callC2 hf (cs := []) rfl rfl rfl) <| fun w16 hH17 => RL.callP rfl hH17 (c_mask_Sub _ _  _) (run_call2 call46 rfl rfl) <| fun w18 hH19 => RL.nil <| CW.cond rfl (fun h21 => ?_) (fun h21 => ?_)
  ·refine SR <| mI rfl <| aI rfl <| va (v := B true) rfl <| RL.nil <| CW.ret <| ?_
   refine outP2 Tryz.results133 (congrArg I ?_) (congrArg B ?_) hH19.below <;> rw [near_yes hn a0 ‹_› ‹_› hg]
  ·refine CW.skip <| CW.region <| V (run_add e25_13 rfl (by omega)) <| mI rfl <| RL.nil <| ?_
   refine ⟨a + 1, ?_, fr13.u4.u4.u4, hH19, (congrArg I (by rfl)), ?_, ?_, ?_⟩
   ·((try dsimp only); omega)
   ·omega
   ·omega
   ·exact fun b x y => if e : b = a then e ▸ ‹_› else hg b x (by omega)
 ·refine CW.exit (id := 0) rfl <| SR <| va (v := I 0) rfl <| va (v := B false) rfl <| RL.nil <| CW.ret <| ?_
  refine outP2 Tryz.results133 (congrArg I ?_) (congrArg B ?_) hH13.below <;> rw [near_no ‹_› hg]
theorem c_hasse_Join (r : Rl) (i j : Int) (w : World) (hT : Tab w) : Calls Tryz.prog 112 #[.agg (relC r), I i, I j] w (Pure (.tuple #[I (joinV r i j).1, B (joinV r i j).2]) w) := by
 refine enter Tryz.func112 rfl Tryz.ntmps112 rfl <| have hH := Hp.start w; SR <| RL.new rfl hH (f := fun b => (.pointer (some ⟨b, 0, none⟩))) (run_box (v := .agg _) rfl) <| fun b3 w1 hH2 => va (v := I 0) rfl <| va (v := B false) rfl <| RL.nil <| SR <| V (run_ldRel underlying60 rfl rfl rfl (hH2.blk (i := 0) rfl)) <| mI rfl <| mI rfl <| RL.callP rfl hH2 (c_hasse_nearest r i j 134 (aboveR r) _ call134 (fun i w h => c_hasse_above r i w h) (fun u h => above_in h) (hT.hp hH2)) (run_call4 call133 rfl rfl rfl rfl) <| fun w4 hH5 => V (run_extract rfl (v := I _) rfl) <| V (run_extract rfl (v := B _) rfl) <| aI rfl <| aB rfl <| RL.nil <| CW.ret <| outP2 Tryz.results112 (congrArg I ?_) (congrArg B ?_) hH5.below
 all_goals rfl
theorem c_hasse_Meet (r : Rl) (i j : Int) (w : World) (hT : Tab w) : Calls Tryz.prog 120 #[.agg (relC r), I i, I j] w (Pure (.tuple #[I (meetV r i j).1, B (meetV r i j).2]) w) := by
 refine enter Tryz.func120 rfl Tryz.ntmps120 rfl <| have hH := Hp.start w; SR <| RL.new rfl hH (f := fun b => (.pointer (some ⟨b, 0, none⟩))) (run_box (v := .agg _) rfl) <| fun b3 w1 hH2 => va (v := I 0) rfl <| va (v := B false) rfl <| RL.nil <| SR <| V (run_ldRel underlying60 rfl rfl rfl (hH2.blk (i := 0) rfl)) <| mI rfl <| mI rfl <| RL.callP rfl hH2 (c_hasse_nearest r i j 132 (belowR r) _ call132 (fun i w h => c_hasse_below r i w h) (fun u h => below_inR h) (hT.hp hH2)) (run_call4 call133 rfl rfl rfl rfl) <| fun w4 hH5 => V (run_extract rfl (v := I _) rfl) <| V (run_extract rfl (v := B _) rfl) <| aI rfl <| aB rfl <| RL.nil <| CW.ret <| outP2 Tryz.results120 (congrArg I ?_) (congrArg B ?_) hH5.below
 all_goals rfl
theorem c_hasse_Word (r : Rl) (i : Int) (w : World) (hT : Tab w) : Calls Tryz.prog 111 #[.agg (relC r), I i] w (Pure (U (belowR r i)) w) := by
 refine enter Tryz.func111 rfl Tryz.ntmps111 rfl <| have hH := Hp.start w; SR <| RL.new rfl hH (f := fun b => (.pointer (some ⟨b, 0, none⟩))) (run_box (v := .agg _) rfl) <| fun b3 w1 hH2 => va (v := U 0#64) rfl <| RL.nil <| SR <| V (run_ldRel underlying60 rfl rfl rfl (hH2.blk (i := 0) rfl)) <| mI rfl <| RL.callP rfl hH2 (c_hasse_below _ _  _ (hT.hp hH2)) (run_call2 call132 rfl rfl) <| fun w4 hH5 => aU rfl <| RL.nil <| CW.ret <| outP1 Tryz.results111 (congrArg U ?_) hH5.below
 rfl
theorem c_hasse_Point (r : Rl) (s : BitVec 64) (w : World) (hT : Tab w) : Calls Tryz.prog 90 #[.agg (relC r), U s] w (Pure (.tuple #[I (pointV r s).1, B (pointV r s).2]) w) := by
 have hp := pts_bd r
 have hnn : (newR r.n).n = pts r := rfl
 refine enter Tryz.func90 rfl Tryz.ntmps90 rfl <| have hH := Hp.start w; SR <| RL.new rfl hH (f := fun b => (.pointer (some ⟨b, 0, none⟩))) (run_box (v := .agg _) rfl) <| fun b3 w1 hH2 => va (v := I 0) rfl <| va (v := B false) rfl <| RL.nil <| CW.seq <| SR <| V (fA underlying60 0 rfl sizeOf3 rfl) <| V (run_ld underlying3 rfl rfl (hH2.cell (i := 0) rfl (relC_N _))) <| RL.callP rfl hH2 (c_relate_New _  _) (run_call1 call110 rfl) <| fun w4 hH5 => V (run_field underlying60 rfl isAgg3 rfl (relC_N _)) <| vm (v := I 0) rfl <| RL.nil <| CW.block <| CW.loop (G := Int) (fun k s' w' => (Fr (rg 4 3 (rg 11 10 [])) _ s') ∧ (Hp w w' _) ∧ (s' 11 = I k) ∧ (0 ≤ k) ∧ (k ≤ pts r) ∧ (∀ j : Int, 0 ≤ j → j < k → belowR r j ≠ s)) (fun k => (pts r - k).toNat) (0) ⟨Fr.refl _ _, hH5, rfl, (by omega), (by omega), fun j x y => absurd y (by omega)⟩ <| ?_
 rintro k sg6 w6 ⟨fr6, hH6, e11_6, h0, hk, hg⟩
 have e1_6 := fr6.uu 1 rfl rfl
 have e2_6 := fr6.pp 2 rfl rfl
 have e10_6 := fr6.ii 10 rfl rfl
 refine SR <| V (run_lss e11_6 e10_6) <| RL.nil <| CW.seq <| CW.condP rfl (fun h8 => ?_) (fun h8 => ?_)
 ·refine CW.skip <| CW.seq <| CW.block <| SR <| vm e11_6 <| aI rfl <| RL.nil <| SR <| V (run_ldRel underlying60 rfl rfl e2_6 (hH6.blk (i := 0) rfl)) <| mI rfl <| RL.callP rfl hH6 (c_hasse_Word _ _  _ (hT.hp hH6)) (run_call2 call111 rfl rfl) <| fun w9 hH10 => vm e1_6 <| V (run_eqlU rfl rfl) <| RL.nil <| CW.condP rfl (fun h12 => ?_) (fun h12 => ?_)
  ·refine SR <| mI rfl <| aI rfl <| va (v := B true) rfl <| RL.nil <| CW.ret <| ?_
   refine outP2 Tryz.results90 (congrArg I ?_) (congrArg B ?_) hH10.below <;> rw [point_yes h0 (by omega) ‹_› hg]
  ·refine CW.skip <| CW.region <| V (run_add e11_6 rfl (by omega)) <| mI rfl <| RL.nil <| ?_
   refine ⟨k + 1, ?_, fr6.u4.u4.u1.u1, hH10, (congrArg I (by rfl)), ?_, ?_, ?_⟩
   ·((try dsimp only); omega)
   ·omega
   ·omega
   ·exact fun j x y => if e : j = k then e ▸ ‹¬ belowR r k = s› else hg j x (by omega)
 ·refine CW.exit (id := 0) rfl <| SR <| va (v := I 0) rfl <| va (v := B false) rfl <| RL.nil <| CW.ret <| ?_
  refine outP2 Tryz.results90 (congrArg I ?_) (congrArg B ?_) hH6.below <;> rw [point_no (by omega) hg]
theorem c_hasse_Raise (r : Rl) (a b : BitVec 64) (w : World) (hT : Tab w) : Calls Tryz.prog 93 #[.agg (relC r), U a, U b] w (Pure (U (raiseV r a b)) w) := by
 refine enter Tryz.func93 rfl Tryz.ntmps93 rfl <| have hH := Hp.start w; SR <| RL.new rfl hH (f := fun b => (.pointer (some ⟨b, 0, none⟩))) (run_box (v := .agg _) rfl) <| fun b3 w1 hH2 => va (v := U 0#64) rfl <| RL.nil <| CW.seq <| SR <| V (run_ldRel underlying60 rfl rfl rfl (hH2.blk (i := 0) rfl)) <| mU rfl <| RL.callP rfl hH2 (c_hasse_Point _ _  _ (hT.hp hH2)) (run_call2 call90 rfl rfl) <| fun w4 hH5 => ?_
 refine V (run_move (by conv => lhs; whnf)) ?_
 refine V (run_extract rfl (v := I _) rfl) <| V (run_extract rfl (v := B _) rfl) <| aI rfl <| aB rfl <| RL.nil <| SR <| mB rfl <| RL.nil <| CW.cond rfl (fun h7 => ?_) (fun h7 => ?_)
 ·refine SR <| V (run_ldRel underlying60 rfl rfl rfl (hH5.blk (i := 0) rfl)) <| mU rfl <| RL.callP rfl hH5 (c_hasse_Point _ _  _ (hT.hp hH5)) (run_call2 call90 rfl rfl) <| fun w8 hH9 => ?_
  refine V (run_move (by conv => lhs; whnf)) ?_
  refine V (run_extract rfl (v := I _) rfl) <| V (run_extract rfl (v := B _) rfl) <| aI rfl <| aB rfl <| RL.nil <| SR <| mB rfl <| RL.nil <| CW.cond rfl (fun h11 => ?_) (fun h11 => ?_)
  ·refine SR <| V (run_ldRel underlying60 rfl rfl rfl (hH9.blk (i := 0) rfl)) <| mI rfl <| mI rfl <| RL.callP rfl hH9 (c_hasse_Join _ _ _  _ (hT.hp hH9)) (run_call3 call112 rfl rfl rfl) <| fun w12 hH13 => ?_
   refine V (run_move (by conv => lhs; whnf)) ?_
   refine V (run_extract rfl (v := I _) rfl) <| V (run_extract rfl (v := B _) rfl) <| aI rfl <| aB rfl <| RL.nil <| SR <| mB rfl <| RL.nil <| CW.cond rfl (fun h15 => ?_) (fun h15 => ?_)
   ·refine SR <| V (run_ldRel underlying60 rfl rfl rfl (hH13.blk (i := 0) rfl)) <| mI rfl <| RL.callP rfl hH13 (c_hasse_Word _ _  _ (hT.hp hH13)) (run_call2 call111 rfl rfl) <| fun w16 hH17 => aU rfl <| RL.nil <| CW.ret <| outP1 Tryz.results93 (congrArg U ?_) hH17.below
    rw [raise_yes ‹_› ‹_› ‹_›]
   ·refine CW.skip <| SR <| mU rfl <| mU rfl <| V (run_orU rfl rfl) <| aU rfl <| RL.nil <| CW.ret <| outP1 Tryz.results93 (congrArg U ?_) hH13.below
    rw [raise_no3 ‹_›]
  ·refine CW.skip <| SR <| mU rfl <| mU rfl <| V (run_orU rfl rfl) <| aU rfl <| RL.nil <| CW.ret <| outP1 Tryz.results93 (congrArg U ?_) hH9.below
   rw [raise_no2 ‹_›]
 ·refine CW.skip <| SR <| mU rfl <| mU rfl <| V (run_orU rfl rfl) <| aU rfl <| RL.nil <| CW.ret <| outP1 Tryz.results93 (congrArg U ?_) hH5.below
  rw [raise_no1 ‹_›]
theorem c_hasse_Lattice (r : Rl) (w : World) (hT : Tab w) : Calls Tryz.prog 103 #[.agg (relC r)] w (Pure (B (latB r)) w) := by
 have hp := pts_bd r
 refine enter Tryz.func103 rfl Tryz.ntmps103 rfl <| have hH := Hp.start w; SR <| RL.new rfl hH (f := fun b => (.pointer (some ⟨b, 0, none⟩))) (run_box (v := .agg _) rfl) <| fun b3 w1 hH2 => va (v := B false) rfl <| RL.nil <| CW.seq <| SR <| V (fA underlying60 0 rfl sizeOf3 rfl) <| V (run_ld underlying3 rfl rfl (hH2.cell (i := 0) rfl (relC_N _))) <| V (run_lss rfl rfl) <| mB rfl <| RL.splitP (dj := 12) rfl (fun h5 => ?_) (fun h5 => ?_)
 ·refine gF rfl (bT h5) <| gF rfl (bT h5) <| gF rfl (bT h5) <| V (run_pickT (bT h5) (v := B true) rfl) <| mB rfl <| gF rfl rfl <| gF rfl rfl <| gF rfl rfl <| V (run_pickT rfl (v := B true) rfl) <| RL.nil <| CW.condT rfl <| SR <| va (v := B false) rfl <| RL.nil <| CW.ret <| outP1 Tryz.results103 (congrArg B ?_) hH2.below
  exact (lat_no1 (by omega)).symm
 ·refine gT rfl (bF h5) <| V (fA underlying60 0 rfl sizeOf3 rfl) <| gT rfl (bF h5) <| V (run_ld underlying3 rfl rfl (hH2.cell (i := 0) rfl (relC_N _))) <| gT rfl (bF h5) <| V (run_gtr rfl rfl) <| V (run_pickF (bF h5) (v := B _) rfl) <| mB rfl <| RL.splitP (dj := 17) rfl (fun h7 => ?_) (fun h7 => ?_)
  ·refine gF rfl (bT h7) <| gF rfl (bT h7) <| gF rfl (bT h7) <| V (run_pickT (bT h7) (v := B true) rfl) <| RL.nil <| CW.condT rfl <| SR <| va (v := B false) rfl <| RL.nil <| CW.ret <| outP1 Tryz.results103 (congrArg B ?_) hH2.below
   exact (lat_no1 (by omega)).symm
  ·refine gT rfl (bF h7) <| V (run_ldRel underlying60 rfl rfl rfl (hH2.blk (i := 0) rfl)) <| gT rfl (bF h7) <| RL.callP rfl hH2 (c_relate_Order _  _ (hT.hp hH2)) (run_call1 call119 rfl) <| fun w8 hH9 => gT rfl (bF h7) <| V (run_not rfl) <| V (run_pickF (bF h7) (v := B _) rfl) <| RL.nil <| CW.cond rfl (fun h12 => ?_) (fun h12 => ?_)
   ·refine SR <| va (v := B false) rfl <| RL.nil <| CW.ret <| outP1 Tryz.results103 (congrArg B ?_) hH9.below
    exact (lat_no2 (nt ‹_›)).symm
   ·refine CW.skip <| CW.seq <| SR <| V (fA underlying60 0 rfl sizeOf3 rfl) <| V (run_ld underlying3 rfl rfl (hH9.cell (i := 0) rfl (relC_N _))) <| vm (v := I 0) rfl <| RL.nil <| CW.block <| have hn : 1 ≤ r.n ∧ r.n ≤ 64 := (by omega); have ho : orderB r = true := nf ‹_›; CW.loop (G := Int) (fun i s' w' => (Fr (rg 2 7 (rg 24 29 [])) _ s') ∧ (Hp w w' _) ∧ (s' 24 = I i) ∧ (0 ≤ i) ∧ (i ≤ r.n) ∧ (∀ a b : Int, 0 ≤ b → b < a → a < i → bothB r a b = true)) (fun i => (r.n - i).toNat) (0) ⟨Fr.refl _ _, hH9, rfl, (by omega), (by omega), fun a b x y z => absurd z (by omega)⟩ <| ?_
    rintro i sg13 w13 ⟨fr13, hH13, e24_13, i0, i1, hg⟩
    have e1_13 := fr13.pp 1 rfl rfl
    have e23_13 := fr13.ii 23 rfl rfl
    refine SR <| V (run_lss e24_13 e23_13) <| RL.nil <| CW.seq <| CW.condP rfl (fun h15 => ?_) (fun h15 => ?_)
    ·refine CW.skip <| CW.seq <| CW.block <| SR <| vm e24_13 <| aI rfl <| RL.nil <| SR <| mI rfl <| vm (v := I 0) rfl <| RL.nil <| CW.block <| CW.loop (G := Int) (fun j s' w' => (Fr (2 :: (rg 4 5 (rg 28 24 []))) _ s') ∧ (Hp w w' _) ∧ (s' 28 = I j) ∧ (0 ≤ j) ∧ (j ≤ i) ∧ (∀ b : Int, 0 ≤ b → b < j → bothB r i b = true)) (fun j => (i - j).toNat) (0) ⟨Fr.refl _ _, hH13, rfl, (by omega), (by omega), fun b x y => absurd y (by omega)⟩ <| ?_
     rintro j sg16 w16 ⟨fr16, hH16, e28_16, j0, j1, hh⟩
     have e1_16 := (fr16 1 rfl).trans e1_13
     have e3_16 := fr16.ii 3 rfl rfl
     have e24_16 := (fr16 24 rfl).trans e24_13
     have e27_16 := fr16.ii 27 rfl rfl
     refine SR <| V (run_lss e28_16 e27_16) <| RL.nil <| CW.seq <| CW.condP rfl (fun h18 => ?_) (fun h18 => ?_)
     ·refine CW.skip <| CW.seq <| CW.block <| SR <| vm e28_16 <| aI rfl <| RL.nil <| SR <| V (run_ldRel underlying60 rfl rfl e1_16 (hH16.blk (i := 0) rfl)) <| vm e3_16 <| mI rfl <| RL.callP rfl hH16 (c_hasse_Join _ _ _  _ (hT.hp hH16)) (run_call3 call112 rfl rfl rfl) <| fun w19 hH20 => ?_
      refine V (run_move (by conv => lhs; whnf)) ?_
      refine V (run_extract rfl (v := I _) rfl) <| V (run_extract rfl (v := B _) rfl) <| aI rfl <| aB rfl <| RL.nil <| SR <| V (run_ldRel underlying60 rfl rfl e1_16 (hH20.blk (i := 0) rfl)) <| vm e3_16 <| mI rfl <| RL.callP rfl hH20 (c_hasse_Meet _ _ _  _ (hT.hp hH20)) (run_call3 call120 rfl rfl rfl) <| fun w22 hH23 => ?_
      refine V (run_move (by conv => lhs; whnf)) ?_
      refine V (run_extract rfl (v := I _) rfl) <| V (run_extract rfl (v := B _) rfl) <| aI rfl <| aB rfl <| RL.nil <| SR <| mB rfl <| V (run_not rfl) <| mB rfl <| RL.split (dj := 47) rfl (fun h26 => ?_) (fun h26 => ?_)
      ·refine gF rfl (bR (c := true) h26) <| gF rfl (bR (c := true) h26) <| V (run_pickT (bR (c := true) h26) (v := B true) rfl) <| RL.nil <| CW.condT rfl <| SR <| va (v := B false) rfl <| RL.nil <| CW.ret <| outP1 Tryz.results103 (congrArg B ?_) hH23.below
       exact (lat_no3 ‹i < r.n› j0 ‹j < i› (by rw [bothB, nt ‹(!(joinV r i j).2) = true›]; rfl)).symm
      ·refine gT rfl (bR (c := false) h26) <| mB rfl <| gT rfl (bR (c := false) h26) <| V (run_not rfl) <| V (run_pickF (bR (c := false) h26) (v := B _) rfl) <| RL.nil <| CW.cond rfl (fun h28 => ?_) (fun h28 => ?_)
       ·refine SR <| va (v := B false) rfl <| RL.nil <| CW.ret <| outP1 Tryz.results103 (congrArg B ?_) hH23.below
        exact (lat_no3 ‹i < r.n› j0 ‹j < i› (by rw [bothB, nt ‹(!(meetV r i j).2) = true›]; simp)).symm
       ·refine CW.skip <| CW.region <| V (run_add e28_16 rfl (by omega)) <| mI rfl <| RL.nil <| ?_
        refine ⟨j + 1, ?_, fr16.u4.u4.u4.u4.u4.u4.u4.u1, hH23, (congrArg I (by rfl)), ?_, ?_, ?_⟩
        ·((try dsimp only); omega)
        ·omega
        ·omega
        ·exact fun b x y => if e : b = j then e ▸ (by rw [bothB, Bool.and_eq_true]; exact ⟨nf ‹(!(joinV r i j).2) = false›, nf ‹(!(meetV r i j).2) = false›⟩) else hh b x (by omega)
     ·refine CW.exit (id := 2) rfl <| CW.region <| V (run_add e24_16 rfl (by omega)) <| mI rfl <| RL.nil <| ?_
      refine ⟨i + 1, ?_, (((fr13.u4.u1).t fr16 rfl)).u1.u1.u1, hH16, (congrArg I (by rfl)), ?_, ?_, ?_⟩
      ·((try dsimp only); omega)
      ·omega
      ·omega
      ·exact fun a b x y z => if e : a = i then e ▸ hh b x (by omega) else hg a b x y (by omega)
    ·refine CW.exit (id := 0) rfl <| SR <| va (v := B true) rfl <| RL.nil <| CW.ret <| outP1 Tryz.results103 (congrArg B ?_) hH13.below
     exact (lat_yes hn ho ‹_› hg).symm
theorem c_clearanceref06_Join (r : Rl) (i j : Int) (w : World) : Calls Tryz.prog 95 #[.agg (relC r), I i, I j] w (Pure (.tuple #[I (joinV r i j).1, B (joinV r i j).2]) w) := by
 have hp := pts_bd r
 refine enter Tryz.func95 rfl Tryz.ntmps95 rfl <| have hH := Hp.start w; SR <| RL.new rfl hH (f := fun b => (.pointer (some ⟨b, 0, none⟩))) (run_box (v := .agg _) rfl) <| fun b3 w1 hH2 => va (v := I 0) rfl <| va (v := B false) rfl <| RL.nil <| CW.seq <| SR <| va (v := I 0) rfl <| RL.nil <| CW.block <| CW.loop (G := Int) (fun u s' w' => (Fr (rg 6 46 []) _ s') ∧ (Hp w w' _) ∧ (s' 8 = I u) ∧ (0 ≤ u) ∧ (u ≤ pts r) ∧ (∀ x : Int, 0 ≤ x → x < u → nearP (aboveR r) i j x = false)) (fun u => (pts r - u).toNat) (0) ⟨Fr.refl _ _, hH2, rfl, (by omega), (by omega), fun x a b => absurd b (by omega)⟩ <| ?_
 rintro u sg4 w4 ⟨fr4, hH4, e8_4, u0, u1, hg⟩
 have e1_4 := fr4.ii 1 rfl rfl
 have e2_4 := fr4.ii 2 rfl rfl
 have e3_4 := fr4.pp 3 rfl rfl
 refine CW.seq <| SR <| vm e8_4 <| V (run_ldRel underlying60 rfl rfl e3_4 (hH4.blk (i := 0) rfl)) <| RL.callP rfl hH4 (c_clearanceref03_Points _  _) (run_call1 call84 rfl) <| fun w5 hH6 => V (run_lss rfl rfl) <| RL.nil <| CW.condP rfl (fun h8 => ?_) (fun h8 => ?_)
 ·refine CW.skip <| CW.seq <| CW.block <| SR <| V (run_ldRel underlying60 rfl rfl e3_4 (hH6.blk (i := 0) rfl)) <| vm e1_4 <| vm e8_4 <| RL.callP rfl hH6 (c_clearanceref03_Has _ _ _  _) (run_call3 call113 rfl rfl rfl) <| fun w9 hH10 => mB rfl <| RL.split (dj := 21) rfl (fun h12 => ?_) (fun h12 => ?_)
  ·refine gT rfl (bR (c := true) h12) <| V (run_ldRel underlying60 rfl rfl e3_4 (hH10.blk (i := 0) rfl)) <| gT rfl (bR (c := true) h12) <| vm e2_4 <| gT rfl (bR (c := true) h12) <| vm e8_4 <| gT rfl (bR (c := true) h12) <| RL.callP rfl hH10 (c_clearanceref03_Has _ _ _  _) (run_call3 call113 rfl rfl rfl) <| fun w13 hH14 => V (run_pickT (bR (c := true) h12) (v := B _) rfl) <| aB rfl <| RL.nil <| CW.seq <| SR <| va (v := I 0) rfl <| RL.nil <| CW.block <| CW.loop (G := Int) (fun v s' w' => (Fr (9 :: 10 :: (rg 27 23 [])) _ s') ∧ (Hp w w' _) ∧ (s' 9 = B (goodJ r i j u v)) ∧ (s' 10 = I v) ∧ (0 ≤ v) ∧ (v ≤ pts r)) (fun v => (pts r - v).toNat) (0) ⟨Fr.refl _ _, hH14, (congrArg B (by simp [goodJ, upto, *])), rfl, (by omega), (by omega)⟩ <| ?_
   rintro v sg16 w16 ⟨fr16, hH16, e9_16, e10_16, v0, v1⟩
   have e1_16 := (fr16 1 rfl).trans e1_4
   have e2_16 := (fr16 2 rfl).trans e2_4
   have e3_16 := (fr16 3 rfl).trans e3_4
   have e8_16 := (fr16 8 rfl).trans e8_4
   refine CW.seq <| SR <| vm e10_16 <| V (run_ldRel underlying60 rfl rfl e3_16 (hH16.blk (i := 0) rfl)) <| RL.callP rfl hH16 (c_clearanceref03_Points _  _) (run_call1 call84 rfl) <| fun w18 hH19 => V (run_lss rfl rfl) <| RL.nil <| CW.condP rfl (fun h21 => ?_) (fun h21 => ?_)
   ·refine CW.skip <| CW.seq <| CW.block <| SR <| V (run_ldRel underlying60 rfl rfl e3_16 (hH19.blk (i := 0) rfl)) <| vm e1_16 <| vm e10_16 <| RL.callP rfl hH19 (c_clearanceref03_Has _ _ _  _) (run_call3 call113 rfl rfl rfl) <| fun w22 hH23 => mB rfl <| RL.split (dj := 37) rfl (fun h25 => ?_) (fun h25 => ?_)
    ·refine gT rfl (bR (c := true) h25) <| V (run_ldRel underlying60 rfl rfl e3_16 (hH23.blk (i := 0) rfl)) <| gT rfl (bR (c := true) h25) <| vm e2_16 <| gT rfl (bR (c := true) h25) <| vm e10_16 <| gT rfl (bR (c := true) h25) <| RL.callP rfl hH23 (c_clearanceref03_Has _ _ _  _) (run_call3 call113 rfl rfl rfl) <| fun w26 hH27 => V (run_pickT (bR (c := true) h25) (v := B _) rfl) <| mB rfl <| RL.split (dj := 43) rfl (fun h29 => ?_) (fun h29 => ?_)
     ·refine gT rfl (bR (c := true) h29) <| V (run_ldRel underlying60 rfl rfl e3_16 (hH27.blk (i := 0) rfl)) <| gT rfl (bR (c := true) h29) <| vm e8_16 <| gT rfl (bR (c := true) h29) <| vm e10_16 <| gT rfl (bR (c := true) h29) <| RL.callP rfl hH27 (c_clearanceref03_Has _ _ _  _) (run_call3 call113 rfl rfl rfl) <| fun w30 hH31 => gT rfl (bR (c := true) h29) <| V (run_not rfl) <| V (run_pickT (bR (c := true) h29) (v := B _) rfl) <| RL.nil <| CW.cond rfl (fun h34 => ?_) (fun h34 => ?_)
      ·refine CW.region <| va (v := B false) rfl <| RL.nil <| CW.region <| vm e10_16 <| V (run_add rfl rfl (by omega)) <| aI rfl <| RL.nil <| ?_
       refine ⟨v + 1, ?_, fr16.u4.u4.u4.u4.u4.u4.u1, hH31, (congrArg B (by rw [goodJ_next v0]; simp [*])), (congrArg I (by rfl)), ?_, ?_⟩
       ·((try dsimp only); omega)
       ·omega
       ·omega
      ·refine CW.skip <| CW.region <| vm e10_16 <| V (run_add rfl rfl (by omega)) <| aI rfl <| RL.nil <| ?_
       refine ⟨v + 1, ?_, fr16.u4.u4.u4.u4.u4.u4, hH31, (Eq.trans e9_16 (congrArg B (by rw [goodJ_next v0]; simp [*]))), (congrArg I (by rfl)), ?_, ?_⟩
       ·((try dsimp only); omega)
       ·omega
       ·omega
     ·refine gF rfl (bR (c := false) h29) <| gF rfl (bR (c := false) h29) <| gF rfl (bR (c := false) h29) <| gF rfl (bR (c := false) h29) <| gF rfl (bR (c := false) h29) <| V (run_pickF (bR (c := false) h29) (v := B false) rfl) <| RL.nil <| CW.condF rfl <| CW.skip <| CW.region <| vm e10_16 <| V (run_add rfl rfl (by omega)) <| aI rfl <| RL.nil <| ?_
      refine ⟨v + 1, ?_, fr16.u4.u4.u4.u4.u4.u4, hH27, (Eq.trans e9_16 (congrArg B (by rw [goodJ_next v0]; simp [*]))), (congrArg I (by rfl)), ?_, ?_⟩
      ·((try dsimp only); omega)
      ·omega
      ·omega
    ·refine gF rfl (bR (c := false) h25) <| gF rfl (bR (c := false) h25) <| gF rfl (bR (c := false) h25) <| gF rfl (bR (c := false) h25) <| V (run_pickF (bR (c := false) h25) (v := B false) rfl) <| mB rfl <| gF rfl rfl <| gF rfl rfl <| gF rfl rfl <| gF rfl rfl <| gF rfl rfl <| V (run_pickF rfl (v := B false) rfl) <| RL.nil <| CW.condF rfl <| CW.skip <| CW.region <| vm e10_16 <| V (run_add rfl rfl (by omega)) <| aI rfl <| RL.nil <| ?_
     refine ⟨v + 1, ?_, fr16.u4.u4.u4.u4.u4.u4, hH23, (Eq.trans e9_16 (congrArg B (by rw [goodJ_next v0]; simp [*]))), (congrArg I (by rfl)), ?_, ?_⟩
     ·((try dsimp only); omega)
     ·omega
     ·omega
   ·refine CW.exit (id := 2) rfl <| SR <| vm e9_16 <| RL.nil <| CW.cond rfl (fun h35 => ?_) (fun h35 => ?_)
    ·refine SR <| vm e8_16 <| aI rfl <| va (v := B true) rfl <| RL.nil <| CW.ret <| ?_
     (refine outP2 Tryz.results95 (congrArg I ?_) (congrArg B ?_) hH19.below <;> rw [join_yes u0 ‹_› (show v = pts r by omega) ‹_› hg])
    ·refine CW.skip <| CW.region <| vm e8_16 <| V (run_add rfl rfl (by omega)) <| aI rfl <| RL.nil <| ?_
     refine ⟨u + 1, ?_, (((fr4.u4.u4.u4.u4).t fr16 rfl)).u4.u4, hH19, (congrArg I (by rfl)), ?_, ?_, ?_⟩
     ·((try dsimp only); omega)
     ·omega
     ·omega
     ·exact fun x a b => if e : x = u then e ▸ (by rw [near_join r i j u (show v = pts r by omega)]; assumption) else hg x a (by omega)
  ·refine gF rfl (bR (c := false) h12) <| gF rfl (bR (c := false) h12) <| gF rfl (bR (c := false) h12) <| gF rfl (bR (c := false) h12) <| V (run_pickF (bR (c := false) h12) (v := B false) rfl) <| aB rfl <| RL.nil <| CW.seq <| SR <| va (v := I 0) rfl <| RL.nil <| CW.block <| CW.loop (G := Int) (fun v s' w' => (Fr (9 :: 10 :: (rg 27 23 [])) _ s') ∧ (Hp w w' _) ∧ (s' 9 = B (goodJ r i j u v)) ∧ (s' 10 = I v) ∧ (0 ≤ v) ∧ (v ≤ pts r)) (fun v => (pts r - v).toNat) (0) ⟨Fr.refl _ _, hH10, (congrArg B (by simp [goodJ, upto, *])), rfl, (by omega), (by omega)⟩ <| ?_
   rintro v sg36 w36 ⟨fr36, hH36, e9_36, e10_36, v0, v1⟩
   have e1_36 := (fr36 1 rfl).trans e1_4
   have e2_36 := (fr36 2 rfl).trans e2_4
   have e3_36 := (fr36 3 rfl).trans e3_4
   have e8_36 := (fr36 8 rfl).trans e8_4
   refine CW.seq <| SR <| vm e10_36 <| V (run_ldRel underlying60 rfl rfl e3_36 (hH36.blk (i := 0) rfl)) <| RL.callP rfl hH36 (c_clearanceref03_Points _  _) (run_call1 call84 rfl) <| fun w38 hH39 => V (run_lss rfl rfl) <| RL.nil <| CW.condP rfl (fun h41 => ?_) (fun h41 => ?_)
   ·refine CW.skip <| CW.seq <| CW.block <| SR <| V (run_ldRel underlying60 rfl rfl e3_36 (hH39.blk (i := 0) rfl)) <| vm e1_36 <| vm e10_36 <| RL.callP rfl hH39 (c_clearanceref03_Has _ _ _  _) (run_call3 call113 rfl rfl rfl) <| fun w42 hH43 => mB rfl <| RL.split (dj := 37) rfl (fun h45 => ?_) (fun h45 => ?_)
    ·refine gT rfl (bR (c := true) h45) <| V (run_ldRel underlying60 rfl rfl e3_36 (hH43.blk (i := 0) rfl)) <| gT rfl (bR (c := true) h45) <| vm e2_36 <| gT rfl (bR (c := true) h45) <| vm e10_36 <| gT rfl (bR (c := true) h45) <| RL.callP rfl hH43 (c_clearanceref03_Has _ _ _  _) (run_call3 call113 rfl rfl rfl) <| fun w46 hH47 => V (run_pickT (bR (c := true) h45) (v := B _) rfl) <| mB rfl <| RL.split (dj := 43) rfl (fun h49 => ?_) (fun h49 => ?_)
     ·refine gT rfl (bR (c := true) h49) <| V (run_ldRel underlying60 rfl rfl e3_36 (hH47.blk (i := 0) rfl)) <| gT rfl (bR (c := true) h49) <| vm e8_36 <| gT rfl (bR (c := true) h49) <| vm e10_36 <| gT rfl (bR (c := true) h49) <| RL.callP rfl hH47 (c_clearanceref03_Has _ _ _  _) (run_call3 call113 rfl rfl rfl) <| fun w50 hH51 => gT rfl (bR (c := true) h49) <| V (run_not rfl) <| V (run_pickT (bR (c := true) h49) (v := B _) rfl) <| RL.nil <| CW.cond rfl (fun h54 => ?_) (fun h54 => ?_)
      ·refine CW.region <| va (v := B false) rfl <| RL.nil <| CW.region <| vm e10_36 <| V (run_add rfl rfl (by omega)) <| aI rfl <| RL.nil <| ?_
       refine ⟨v + 1, ?_, fr36.u4.u4.u4.u4.u4.u4.u1, hH51, (congrArg B (by rw [goodJ_next v0]; simp [*])), (congrArg I (by rfl)), ?_, ?_⟩
       ·((try dsimp only); omega)
       ·omega
       ·omega
      ·refine CW.skip <| CW.region <| vm e10_36 <| V (run_add rfl rfl (by omega)) <| aI rfl <| RL.nil <| ?_
       refine ⟨v + 1, ?_, fr36.u4.u4.u4.u4.u4.u4, hH51, (Eq.trans e9_36 (congrArg B (by rw [goodJ_next v0]; simp [*]))), (congrArg I (by rfl)), ?_, ?_⟩
       ·((try dsimp only); omega)
       ·omega
       ·omega
     ·refine gF rfl (bR (c := false) h49) <| gF rfl (bR (c := false) h49) <| gF rfl (bR (c := false) h49) <| gF rfl (bR (c := false) h49) <| gF rfl (bR (c := false) h49) <| V (run_pickF (bR (c := false) h49) (v := B false) rfl) <| RL.nil <| CW.condF rfl <| CW.skip <| CW.region <| vm e10_36 <| V (run_add rfl rfl (by omega)) <| aI rfl <| RL.nil <| ?_
      refine ⟨v + 1, ?_, fr36.u4.u4.u4.u4.u4.u4, hH47, (Eq.trans e9_36 (congrArg B (by rw [goodJ_next v0]; simp [*]))), (congrArg I (by rfl)), ?_, ?_⟩
      ·((try dsimp only); omega)
      ·omega
      ·omega
    ·refine gF rfl (bR (c := false) h45) <| gF rfl (bR (c := false) h45) <| gF rfl (bR (c := false) h45) <| gF rfl (bR (c := false) h45) <| V (run_pickF (bR (c := false) h45) (v := B false) rfl) <| mB rfl <| gF rfl rfl <| gF rfl rfl <| gF rfl rfl <| gF rfl rfl <| gF rfl rfl <| V (run_pickF rfl (v := B false) rfl) <| RL.nil <| CW.condF rfl <| CW.skip <| CW.region <| vm e10_36 <| V (run_add rfl rfl (by omega)) <| aI rfl <| RL.nil <| ?_
     refine ⟨v + 1, ?_, fr36.u4.u4.u4.u4.u4.u4, hH43, (Eq.trans e9_36 (congrArg B (by rw [goodJ_next v0]; simp [*]))), (congrArg I (by rfl)), ?_, ?_⟩
     ·((try dsimp only); omega)
     ·omega
     ·omega
   ·refine CW.exit (id := 2) rfl <| SR <| vm e9_36 <| RL.nil <| CW.cond rfl (fun h55 => ?_) (fun h55 => ?_)
    ·refine SR <| vm e8_36 <| aI rfl <| va (v := B true) rfl <| RL.nil <| CW.ret <| ?_
     (refine outP2 Tryz.results95 (congrArg I ?_) (congrArg B ?_) hH39.below <;> rw [join_yes u0 ‹_› (show v = pts r by omega) ‹_› hg])
    ·refine CW.skip <| CW.region <| vm e8_36 <| V (run_add rfl rfl (by omega)) <| aI rfl <| RL.nil <| ?_
     refine ⟨u + 1, ?_, (((fr4.u4.u4.u4.u4).t fr36 rfl)).u4.u4, hH39, (congrArg I (by rfl)), ?_, ?_, ?_⟩
     ·((try dsimp only); omega)
     ·omega
     ·omega
     ·exact fun x a b => if e : x = u then e ▸ (by rw [near_join r i j u (show v = pts r by omega)]; assumption) else hg x a (by omega)
 ·refine CW.exit (id := 0) rfl <| SR <| va (v := I 0) rfl <| va (v := B false) rfl <| RL.nil <| CW.ret <| ?_
  (refine outP2 Tryz.results95 (congrArg I ?_) (congrArg B ?_) hH6.below <;> rw [join_no ‹_› hg])
theorem c_clearanceref06_Meet (r : Rl) (i j : Int) (w : World) : Calls Tryz.prog 107 #[.agg (relC r), I i, I j] w (Pure (.tuple #[I (meetV r i j).1, B (meetV r i j).2]) w) := by
 have hp := pts_bd r
 refine enter Tryz.func107 rfl Tryz.ntmps107 rfl <| have hH := Hp.start w; SR <| RL.new rfl hH (f := fun b => (.pointer (some ⟨b, 0, none⟩))) (run_box (v := .agg _) rfl) <| fun b3 w1 hH2 => va (v := I 0) rfl <| va (v := B false) rfl <| RL.nil <| CW.seq <| SR <| va (v := I 0) rfl <| RL.nil <| CW.block <| CW.loop (G := Int) (fun u s' w' => (Fr (rg 6 46 []) _ s') ∧ (Hp w w' _) ∧ (s' 8 = I u) ∧ (0 ≤ u) ∧ (u ≤ pts r) ∧ (∀ x : Int, 0 ≤ x → x < u → nearP (belowR r) i j x = false)) (fun u => (pts r - u).toNat) (0) ⟨Fr.refl _ _, hH2, rfl, (by omega), (by omega), fun x a b => absurd b (by omega)⟩ <| ?_
 rintro u sg4 w4 ⟨fr4, hH4, e8_4, u0, u1, hg⟩
 have e1_4 := fr4.ii 1 rfl rfl
 have e2_4 := fr4.ii 2 rfl rfl
 have e3_4 := fr4.pp 3 rfl rfl
 refine CW.seq <| SR <| vm e8_4 <| V (run_ldRel underlying60 rfl rfl e3_4 (hH4.blk (i := 0) rfl)) <| RL.callP rfl hH4 (c_clearanceref03_Points _  _) (run_call1 call84 rfl) <| fun w5 hH6 => V (run_lss rfl rfl) <| RL.nil <| CW.condP rfl (fun h8 => ?_) (fun h8 => ?_)
 ·refine CW.skip <| CW.seq <| CW.block <| SR <| V (run_ldRel underlying60 rfl rfl e3_4 (hH6.blk (i := 0) rfl)) <| vm e8_4 <| vm e1_4 <| RL.callP rfl hH6 (c_clearanceref03_Has _ _ _  _) (run_call3 call113 rfl rfl rfl) <| fun w9 hH10 => mB rfl <| RL.split (dj := 21) rfl (fun h12 => ?_) (fun h12 => ?_)
  ·refine gT rfl (bR (c := true) h12) <| V (run_ldRel underlying60 rfl rfl e3_4 (hH10.blk (i := 0) rfl)) <| gT rfl (bR (c := true) h12) <| vm e8_4 <| gT rfl (bR (c := true) h12) <| vm e2_4 <| gT rfl (bR (c := true) h12) <| RL.callP rfl hH10 (c_clearanceref03_Has _ _ _  _) (run_call3 call113 rfl rfl rfl) <| fun w13 hH14 => V (run_pickT (bR (c := true) h12) (v := B _) rfl) <| aB rfl <| RL.nil <| CW.seq <| SR <| va (v := I 0) rfl <| RL.nil <| CW.block <| CW.loop (G := Int) (fun v s' w' => (Fr (9 :: 10 :: (rg 27 23 [])) _ s') ∧ (Hp w w' _) ∧ (s' 9 = B (goodM r i j u v)) ∧ (s' 10 = I v) ∧ (0 ≤ v) ∧ (v ≤ pts r)) (fun v => (pts r - v).toNat) (0) ⟨Fr.refl _ _, hH14, (congrArg B (by simp [goodM, upto, *])), rfl, (by omega), (by omega)⟩ <| ?_
   rintro v sg16 w16 ⟨fr16, hH16, e9_16, e10_16, v0, v1⟩
   have e1_16 := (fr16 1 rfl).trans e1_4
   have e2_16 := (fr16 2 rfl).trans e2_4
   have e3_16 := (fr16 3 rfl).trans e3_4
   have e8_16 := (fr16 8 rfl).trans e8_4
   refine CW.seq <| SR <| vm e10_16 <| V (run_ldRel underlying60 rfl rfl e3_16 (hH16.blk (i := 0) rfl)) <| RL.callP rfl hH16 (c_clearanceref03_Points _  _) (run_call1 call84 rfl) <| fun w18 hH19 => V (run_lss rfl rfl) <| RL.nil <| CW.condP rfl (fun h21 => ?_) (fun h21 => ?_)
   ·refine CW.skip <| CW.seq <| CW.block <| SR <| V (run_ldRel underlying60 rfl rfl e3_16 (hH19.blk (i := 0) rfl)) <| vm e10_16 <| vm e1_16 <| RL.callP rfl hH19 (c_clearanceref03_Has _ _ _  _) (run_call3 call113 rfl rfl rfl) <| fun w22 hH23 => mB rfl <| RL.split (dj := 37) rfl (fun h25 => ?_) (fun h25 => ?_)
    ·refine gT rfl (bR (c := true) h25) <| V (run_ldRel underlying60 rfl rfl e3_16 (hH23.blk (i := 0) rfl)) <| gT rfl (bR (c := true) h25) <| vm e10_16 <| gT rfl (bR (c := true) h25) <| vm e2_16 <| gT rfl (bR (c := true) h25) <| RL.callP rfl hH23 (c_clearanceref03_Has _ _ _  _) (run_call3 call113 rfl rfl rfl) <| fun w26 hH27 => V (run_pickT (bR (c := true) h25) (v := B _) rfl) <| mB rfl <| RL.split (dj := 43) rfl (fun h29 => ?_) (fun h29 => ?_)
     ·refine gT rfl (bR (c := true) h29) <| V (run_ldRel underlying60 rfl rfl e3_16 (hH27.blk (i := 0) rfl)) <| gT rfl (bR (c := true) h29) <| vm e10_16 <| gT rfl (bR (c := true) h29) <| vm e8_16 <| gT rfl (bR (c := true) h29) <| RL.callP rfl hH27 (c_clearanceref03_Has _ _ _  _) (run_call3 call113 rfl rfl rfl) <| fun w30 hH31 => gT rfl (bR (c := true) h29) <| V (run_not rfl) <| V (run_pickT (bR (c := true) h29) (v := B _) rfl) <| RL.nil <| CW.cond rfl (fun h34 => ?_) (fun h34 => ?_)
      ·refine CW.region <| va (v := B false) rfl <| RL.nil <| CW.region <| vm e10_16 <| V (run_add rfl rfl (by omega)) <| aI rfl <| RL.nil <| ?_
       refine ⟨v + 1, ?_, fr16.u4.u4.u4.u4.u4.u4.u1, hH31, (congrArg B (by rw [goodM_next v0]; simp [*])), (congrArg I (by rfl)), ?_, ?_⟩
       ·((try dsimp only); omega)
       ·omega
       ·omega
      ·refine CW.skip <| CW.region <| vm e10_16 <| V (run_add rfl rfl (by omega)) <| aI rfl <| RL.nil <| ?_
       refine ⟨v + 1, ?_, fr16.u4.u4.u4.u4.u4.u4, hH31, (Eq.trans e9_16 (congrArg B (by rw [goodM_next v0]; simp [*]))), (congrArg I (by rfl)), ?_, ?_⟩
       ·((try dsimp only); omega)
       ·omega
       ·omega
     ·refine gF rfl (bR (c := false) h29) <| gF rfl (bR (c := false) h29) <| gF rfl (bR (c := false) h29) <| gF rfl (bR (c := false) h29) <| gF rfl (bR (c := false) h29) <| V (run_pickF (bR (c := false) h29) (v := B false) rfl) <| RL.nil <| CW.condF rfl <| CW.skip <| CW.region <| vm e10_16 <| V (run_add rfl rfl (by omega)) <| aI rfl <| RL.nil <| ?_
      refine ⟨v + 1, ?_, fr16.u4.u4.u4.u4.u4.u4, hH27, (Eq.trans e9_16 (congrArg B (by rw [goodM_next v0]; simp [*]))), (congrArg I (by rfl)), ?_, ?_⟩
      ·((try dsimp only); omega)
      ·omega
      ·omega
    ·refine gF rfl (bR (c := false) h25) <| gF rfl (bR (c := false) h25) <| gF rfl (bR (c := false) h25) <| gF rfl (bR (c := false) h25) <| V (run_pickF (bR (c := false) h25) (v := B false) rfl) <| mB rfl <| gF rfl rfl <| gF rfl rfl <| gF rfl rfl <| gF rfl rfl <| gF rfl rfl <| V (run_pickF rfl (v := B false) rfl) <| RL.nil <| CW.condF rfl <| CW.skip <| CW.region <| vm e10_16 <| V (run_add rfl rfl (by omega)) <| aI rfl <| RL.nil <| ?_
     refine ⟨v + 1, ?_, fr16.u4.u4.u4.u4.u4.u4, hH23, (Eq.trans e9_16 (congrArg B (by rw [goodM_next v0]; simp [*]))), (congrArg I (by rfl)), ?_, ?_⟩
     ·((try dsimp only); omega)
     ·omega
     ·omega
   ·refine CW.exit (id := 2) rfl <| SR <| vm e9_16 <| RL.nil <| CW.cond rfl (fun h35 => ?_) (fun h35 => ?_)
    ·refine SR <| vm e8_16 <| aI rfl <| va (v := B true) rfl <| RL.nil <| CW.ret <| ?_
     (refine outP2 Tryz.results107 (congrArg I ?_) (congrArg B ?_) hH19.below <;> rw [meet_yes u0 ‹_› (show v = pts r by omega) ‹_› hg])
    ·refine CW.skip <| CW.region <| vm e8_16 <| V (run_add rfl rfl (by omega)) <| aI rfl <| RL.nil <| ?_
     refine ⟨u + 1, ?_, (((fr4.u4.u4.u4.u4).t fr16 rfl)).u4.u4, hH19, (congrArg I (by rfl)), ?_, ?_, ?_⟩
     ·((try dsimp only); omega)
     ·omega
     ·omega
     ·exact fun x a b => if e : x = u then e ▸ (by rw [near_meet r i j u (show v = pts r by omega)]; assumption) else hg x a (by omega)
  ·refine gF rfl (bR (c := false) h12) <| gF rfl (bR (c := false) h12) <| gF rfl (bR (c := false) h12) <| gF rfl (bR (c := false) h12) <| V (run_pickF (bR (c := false) h12) (v := B false) rfl) <| aB rfl <| RL.nil <| CW.seq <| SR <| va (v := I 0) rfl <| RL.nil <| CW.block <| CW.loop (G := Int) (fun v s' w' => (Fr (9 :: 10 :: (rg 27 23 [])) _ s') ∧ (Hp w w' _) ∧ (s' 9 = B (goodM r i j u v)) ∧ (s' 10 = I v) ∧ (0 ≤ v) ∧ (v ≤ pts r)) (fun v => (pts r - v).toNat) (0) ⟨Fr.refl _ _, hH10, (congrArg B (by simp [goodM, upto, *])), rfl, (by omega), (by omega)⟩ <| ?_
   rintro v sg36 w36 ⟨fr36, hH36, e9_36, e10_36, v0, v1⟩
   have e1_36 := (fr36 1 rfl).trans e1_4
   have e2_36 := (fr36 2 rfl).trans e2_4
   have e3_36 := (fr36 3 rfl).trans e3_4
   have e8_36 := (fr36 8 rfl).trans e8_4
   refine CW.seq <| SR <| vm e10_36 <| V (run_ldRel underlying60 rfl rfl e3_36 (hH36.blk (i := 0) rfl)) <| RL.callP rfl hH36 (c_clearanceref03_Points _  _) (run_call1 call84 rfl) <| fun w38 hH39 => V (run_lss rfl rfl) <| RL.nil <| CW.condP rfl (fun h41 => ?_) (fun h41 => ?_)
   ·refine CW.skip <| CW.seq <| CW.block <| SR <| V (run_ldRel underlying60 rfl rfl e3_36 (hH39.blk (i := 0) rfl)) <| vm e10_36 <| vm e1_36 <| RL.callP rfl hH39 (c_clearanceref03_Has _ _ _  _) (run_call3 call113 rfl rfl rfl) <| fun w42 hH43 => mB rfl <| RL.split (dj := 37) rfl (fun h45 => ?_) (fun h45 => ?_)
    ·refine gT rfl (bR (c := true) h45) <| V (run_ldRel underlying60 rfl rfl e3_36 (hH43.blk (i := 0) rfl)) <| gT rfl (bR (c := true) h45) <| vm e10_36 <| gT rfl (bR (c := true) h45) <| vm e2_36 <| gT rfl (bR (c := true) h45) <| RL.callP rfl hH43 (c_clearanceref03_Has _ _ _  _) (run_call3 call113 rfl rfl rfl) <| fun w46 hH47 => V (run_pickT (bR (c := true) h45) (v := B _) rfl) <| mB rfl <| RL.split (dj := 43) rfl (fun h49 => ?_) (fun h49 => ?_)
     ·refine gT rfl (bR (c := true) h49) <| V (run_ldRel underlying60 rfl rfl e3_36 (hH47.blk (i := 0) rfl)) <| gT rfl (bR (c := true) h49) <| vm e10_36 <| gT rfl (bR (c := true) h49) <| vm e8_36 <| gT rfl (bR (c := true) h49) <| RL.callP rfl hH47 (c_clearanceref03_Has _ _ _  _) (run_call3 call113 rfl rfl rfl) <| fun w50 hH51 => gT rfl (bR (c := true) h49) <| V (run_not rfl) <| V (run_pickT (bR (c := true) h49) (v := B _) rfl) <| RL.nil <| CW.cond rfl (fun h54 => ?_) (fun h54 => ?_)
      ·refine CW.region <| va (v := B false) rfl <| RL.nil <| CW.region <| vm e10_36 <| V (run_add rfl rfl (by omega)) <| aI rfl <| RL.nil <| ?_
       refine ⟨v + 1, ?_, fr36.u4.u4.u4.u4.u4.u4.u1, hH51, (congrArg B (by rw [goodM_next v0]; simp [*])), (congrArg I (by rfl)), ?_, ?_⟩
       ·((try dsimp only); omega)
       ·omega
       ·omega
      ·refine CW.skip <| CW.region <| vm e10_36 <| V (run_add rfl rfl (by omega)) <| aI rfl <| RL.nil <| ?_
       refine ⟨v + 1, ?_, fr36.u4.u4.u4.u4.u4.u4, hH51, (Eq.trans e9_36 (congrArg B (by rw [goodM_next v0]; simp [*]))), (congrArg I (by rfl)), ?_, ?_⟩
       ·((try dsimp only); omega)
       ·omega
       ·omega
     ·refine gF rfl (bR (c := false) h49) <| gF rfl (bR (c := false) h49) <| gF rfl (bR (c := false) h49) <| gF rfl (bR (c := false) h49) <| gF rfl (bR (c := false) h49) <| V (run_pickF (bR (c := false) h49) (v := B false) rfl) <| RL.nil <| CW.condF rfl <| CW.skip <| CW.region <| vm e10_36 <| V (run_add rfl rfl (by omega)) <| aI rfl <| RL.nil <| ?_
      refine ⟨v + 1, ?_, fr36.u4.u4.u4.u4.u4.u4, hH47, (Eq.trans e9_36 (congrArg B (by rw [goodM_next v0]; simp [*]))), (congrArg I (by rfl)), ?_, ?_⟩
      ·((try dsimp only); omega)
      ·omega
      ·omega
    ·refine gF rfl (bR (c := false) h45) <| gF rfl (bR (c := false) h45) <| gF rfl (bR (c := false) h45) <| gF rfl (bR (c := false) h45) <| V (run_pickF (bR (c := false) h45) (v := B false) rfl) <| mB rfl <| gF rfl rfl <| gF rfl rfl <| gF rfl rfl <| gF rfl rfl <| gF rfl rfl <| V (run_pickF rfl (v := B false) rfl) <| RL.nil <| CW.condF rfl <| CW.skip <| CW.region <| vm e10_36 <| V (run_add rfl rfl (by omega)) <| aI rfl <| RL.nil <| ?_
     refine ⟨v + 1, ?_, fr36.u4.u4.u4.u4.u4.u4, hH43, (Eq.trans e9_36 (congrArg B (by rw [goodM_next v0]; simp [*]))), (congrArg I (by rfl)), ?_, ?_⟩
     ·((try dsimp only); omega)
     ·omega
     ·omega
   ·refine CW.exit (id := 2) rfl <| SR <| vm e9_36 <| RL.nil <| CW.cond rfl (fun h55 => ?_) (fun h55 => ?_)
    ·refine SR <| vm e8_36 <| aI rfl <| va (v := B true) rfl <| RL.nil <| CW.ret <| ?_
     (refine outP2 Tryz.results107 (congrArg I ?_) (congrArg B ?_) hH39.below <;> rw [meet_yes u0 ‹_› (show v = pts r by omega) ‹_› hg])
    ·refine CW.skip <| CW.region <| vm e8_36 <| V (run_add rfl rfl (by omega)) <| aI rfl <| RL.nil <| ?_
     refine ⟨u + 1, ?_, (((fr4.u4.u4.u4.u4).t fr36 rfl)).u4.u4, hH39, (congrArg I (by rfl)), ?_, ?_, ?_⟩
     ·((try dsimp only); omega)
     ·omega
     ·omega
     ·exact fun x a b => if e : x = u then e ▸ (by rw [near_meet r i j u (show v = pts r by omega)]; assumption) else hg x a (by omega)
 ·refine CW.exit (id := 0) rfl <| SR <| va (v := I 0) rfl <| va (v := B false) rfl <| RL.nil <| CW.ret <| ?_
  (refine outP2 Tryz.results107 (congrArg I ?_) (congrArg B ?_) hH6.below <;> rw [meet_no ‹_› hg])
theorem c_clearanceref06_Lattice (r : Rl) (w : World) : Calls Tryz.prog 86 #[.agg (relC r)] w (Pure (B (latB r)) w) := by
 have hp := pts_bd r
 refine enter Tryz.func86 rfl Tryz.ntmps86 rfl <| have hH := Hp.start w; SR <| RL.new rfl hH (f := fun b => (.pointer (some ⟨b, 0, none⟩))) (run_box (v := .agg _) rfl) <| fun b3 w1 hH2 => va (v := B false) rfl <| RL.nil <| CW.seq <| SR <| V (fA underlying60 0 rfl sizeOf3 rfl) <| V (run_ld underlying3 rfl rfl (hH2.cell (i := 0) rfl (relC_N _))) <| V (run_lss rfl rfl) <| mB rfl <| RL.splitP (dj := 12) rfl (fun h5 => ?_) (fun h5 => ?_)
 ·refine gF rfl (bT h5) <| gF rfl (bT h5) <| gF rfl (bT h5) <| V (run_pickT (bT h5) (v := B true) rfl) <| mB rfl <| gF rfl rfl <| gF rfl rfl <| gF rfl rfl <| V (run_pickT rfl (v := B true) rfl) <| RL.nil <| CW.condT rfl <| SR <| va (v := B false) rfl <| RL.nil <| CW.ret <| outP1 Tryz.results86 (congrArg B ?_) hH2.below
  exact (lat_no1 (by omega)).symm
 ·refine gT rfl (bF h5) <| V (fA underlying60 0 rfl sizeOf3 rfl) <| gT rfl (bF h5) <| V (run_ld underlying3 rfl rfl (hH2.cell (i := 0) rfl (relC_N _))) <| gT rfl (bF h5) <| V (run_gtr rfl rfl) <| V (run_pickF (bF h5) (v := B _) rfl) <| mB rfl <| RL.splitP (dj := 17) rfl (fun h7 => ?_) (fun h7 => ?_)
  ·refine gF rfl (bT h7) <| gF rfl (bT h7) <| gF rfl (bT h7) <| V (run_pickT (bT h7) (v := B true) rfl) <| RL.nil <| CW.condT rfl <| SR <| va (v := B false) rfl <| RL.nil <| CW.ret <| outP1 Tryz.results86 (congrArg B ?_) hH2.below
   exact (lat_no1 (by omega)).symm
  ·refine gT rfl (bF h7) <| V (run_ldRel underlying60 rfl rfl rfl (hH2.blk (i := 0) rfl)) <| gT rfl (bF h7) <| RL.callP rfl hH2 (c_clearanceref03_Order _  _) (run_call1 call106 rfl) <| fun w8 hH9 => gT rfl (bF h7) <| V (run_not rfl) <| V (run_pickF (bF h7) (v := B _) rfl) <| RL.nil <| CW.cond rfl (fun h12 => ?_) (fun h12 => ?_)
   ·refine SR <| va (v := B false) rfl <| RL.nil <| CW.ret <| outP1 Tryz.results86 (congrArg B ?_) hH9.below
    exact (lat_no2 (nt ‹_›)).symm
   ·refine CW.skip <| CW.seq <| SR <| va (v := I 0) rfl <| RL.nil <| CW.block <| have hn : 1 ≤ r.n ∧ r.n ≤ 64 := (by omega); have ho : orderB r = true := nf ‹_›; CW.loop (G := Int) (fun i s' w' => (Fr (rg 2 7 (rg 22 31 [])) _ s') ∧ (Hp w w' _) ∧ (s' 3 = I i) ∧ (0 ≤ i) ∧ (i ≤ r.n) ∧ (∀ a b : Int, 0 ≤ b → b < a → a < i → bothB r a b = true)) (fun i => (r.n - i).toNat) (0) ⟨Fr.refl _ _, hH9, rfl, (by omega), (by omega), fun a b x y z => absurd z (by omega)⟩ <| ?_
    rintro i sg13 w13 ⟨fr13, hH13, e3_13, i0, i1, hg⟩
    have e1_13 := fr13.pp 1 rfl rfl
    refine CW.seq <| SR <| vm e3_13 <| V (fA underlying60 0 rfl sizeOf3 e1_13) <| V (run_ld underlying3 rfl rfl (hH13.cell (i := 0) rfl (relC_N _))) <| V (run_lss rfl rfl) <| RL.nil <| CW.condP rfl (fun h15 => ?_) (fun h15 => ?_)
    ·refine CW.skip <| CW.seq <| CW.block <| SR <| va (v := I 0) rfl <| RL.nil <| CW.block <| CW.loop (G := Int) (fun j s' w' => (Fr (2 :: (rg 4 5 (rg 28 25 []))) _ s') ∧ (Hp w w' _) ∧ (s' 4 = I j) ∧ (0 ≤ j) ∧ (j ≤ i) ∧ (∀ b : Int, 0 ≤ b → b < j → bothB r i b = true)) (fun j => (i - j).toNat) (0) ⟨Fr.refl _ _, hH13, rfl, (by omega), (by omega), fun b x y => absurd y (by omega)⟩ <| ?_
     rintro j sg16 w16 ⟨fr16, hH16, e4_16, j0, j1, hh⟩
     have e1_16 := (fr16 1 rfl).trans e1_13
     have e3_16 := (fr16 3 rfl).trans e3_13
     refine CW.seq <| SR <| vm e4_16 <| vm e3_16 <| V (run_lss rfl rfl) <| RL.nil <| CW.condP rfl (fun h18 => ?_) (fun h18 => ?_)
     ·refine CW.skip <| CW.seq <| CW.block <| SR <| V (run_ldRel underlying60 rfl rfl e1_16 (hH16.blk (i := 0) rfl)) <| vm e3_16 <| vm e4_16 <| RL.callP rfl hH16 (c_clearanceref06_Join _ _ _  _) (run_call3 call95 rfl rfl rfl) <| fun w19 hH20 => ?_
      refine V (run_move (by conv => lhs; whnf)) ?_
      refine V (run_extract rfl (v := I _) rfl) <| V (run_extract rfl (v := B _) rfl) <| aI rfl <| aB rfl <| RL.nil <| SR <| V (run_ldRel underlying60 rfl rfl e1_16 (hH20.blk (i := 0) rfl)) <| vm e3_16 <| vm e4_16 <| RL.callP rfl hH20 (c_clearanceref06_Meet _ _ _  _) (run_call3 call107 rfl rfl rfl) <| fun w22 hH23 => ?_
      refine V (run_move (by conv => lhs; whnf)) ?_
      refine V (run_extract rfl (v := I _) rfl) <| V (run_extract rfl (v := B _) rfl) <| aI rfl <| aB rfl <| RL.nil <| SR <| mB rfl <| V (run_not rfl) <| mB rfl <| RL.split (dj := 49) rfl (fun h26 => ?_) (fun h26 => ?_)
      ·refine gF rfl (bR (c := true) h26) <| gF rfl (bR (c := true) h26) <| V (run_pickT (bR (c := true) h26) (v := B true) rfl) <| RL.nil <| CW.condT rfl <| SR <| va (v := B false) rfl <| RL.nil <| CW.ret <| outP1 Tryz.results86 (congrArg B ?_) hH23.below
       exact (lat_no3 ‹i < r.n› j0 ‹j < i› (by rw [bothB, nt ‹(!(joinV r i j).2) = true›]; rfl)).symm
      ·refine gT rfl (bR (c := false) h26) <| mB rfl <| gT rfl (bR (c := false) h26) <| V (run_not rfl) <| V (run_pickF (bR (c := false) h26) (v := B _) rfl) <| RL.nil <| CW.cond rfl (fun h28 => ?_) (fun h28 => ?_)
       ·refine SR <| va (v := B false) rfl <| RL.nil <| CW.ret <| outP1 Tryz.results86 (congrArg B ?_) hH23.below
        exact (lat_no3 ‹i < r.n› j0 ‹j < i› (by rw [bothB, nt ‹(!(meetV r i j).2) = true›]; simp)).symm
       ·refine CW.skip <| CW.region <| vm e4_16 <| V (run_add rfl rfl (by omega)) <| aI rfl <| RL.nil <| ?_
        refine ⟨j + 1, ?_, fr16.u4.u4.u4.u4.u4.u4.u4.u1.u1, hH23, (congrArg I (by rfl)), ?_, ?_, ?_⟩
        ·((try dsimp only); omega)
        ·omega
        ·omega
        ·exact fun b x y => if e : b = j then e ▸ (by rw [bothB, Bool.and_eq_true]; exact ⟨nf ‹(!(joinV r i j).2) = false›, nf ‹(!(meetV r i j).2) = false›⟩) else hh b x (by omega)
     ·refine CW.exit (id := 2) rfl <| CW.region <| vm e3_16 <| V (run_add rfl rfl (by omega)) <| aI rfl <| RL.nil <| ?_
      refine ⟨i + 1, ?_, (((fr13.u4.u1).t fr16 rfl)).u4.u1.u1, hH16, (congrArg I (by rfl)), ?_, ?_, ?_⟩
      ·((try dsimp only); omega)
      ·omega
      ·omega
      ·exact fun a b x y z => if e : a = i then e ▸ hh b x (by omega) else hg a b x y (by omega)
    ·refine CW.exit (id := 0) rfl <| SR <| va (v := B true) rfl <| RL.nil <| CW.ret <| outP1 Tryz.results86 (congrArg B ?_) hH13.below
     exact (lat_yes hn ho ‹_› hg).symm
theorem c_grid_Right (r : Rl) (w : World) : Calls Tryz.prog 102 #[.agg (relC r)] w (Pure (B (rightG r)) w) := by
 refine enter Tryz.func102 rfl Tryz.ntmps102 rfl <| have hH := Hp.start w; SR <| RL.new rfl hH (f := fun b => (.pointer (some ⟨b, 0, none⟩))) (run_box (v := .agg _) rfl) <| fun b3 w1 hH2 => va (v := B false) rfl <| RL.nil <| SR <| V (fA underlying60 0 rfl sizeOf3 rfl) <| V (run_ld underlying3 rfl rfl (hH2.cell (i := 0) rfl (relC_N _))) <| V (run_geq rfl rfl) <| mB rfl <| RL.splitP (dj := 6) rfl (fun h5 => ?_) (fun h5 => ?_)
 ·refine gT rfl (bT h5) <| V (fA underlying60 0 rfl sizeOf3 rfl) <| gT rfl (bT h5) <| V (run_ld underlying3 rfl rfl (hH2.cell (i := 0) rfl (relC_N _))) <| gT rfl (bT h5) <| V (run_leq rfl rfl) <| V (run_pickT (bT h5) (v := B _) rfl) <| mB rfl <| RL.splitP (dj := 11) rfl (fun h7 => ?_) (fun h7 => ?_)
  ·refine gT rfl (bT h7) <| V (run_ldRel underlying60 rfl rfl rfl (hH2.blk (i := 0) rfl)) <| gT rfl (bT h7) <| RL.callP rfl hH2 (c_relate_Closed _  _) (run_call1 call118 rfl) <| fun w8 hH9 => V (run_pickT (bT h7) (v := B _) rfl) <| aB rfl <| RL.nil <| CW.ret <| outP1 Tryz.results102 (congrArg B ?_) hH9.below
   rw [rightG, decide_eq_true (show 1 ≤ r.n ∧ r.n ≤ 8 by omega), Bool.true_and]
  ·refine gF rfl (bF h7) <| gF rfl (bF h7) <| V (run_pickF (bF h7) (v := B false) rfl) <| aB rfl <| RL.nil <| CW.ret <| outP1 Tryz.results102 (congrArg B ?_) hH2.below
   rw [rightG, decide_eq_false (show ¬ (1 ≤ r.n ∧ r.n ≤ 8) by omega), Bool.false_and]
 ·refine gF rfl (bF h5) <| gF rfl (bF h5) <| gF rfl (bF h5) <| V (run_pickF (bF h5) (v := B false) rfl) <| mB rfl <| gF rfl rfl <| gF rfl rfl <| V (run_pickF rfl (v := B false) rfl) <| aB rfl <| RL.nil <| CW.ret <| outP1 Tryz.results102 (congrArg B ?_) hH2.below
  rw [rightG, decide_eq_false (show ¬ (1 ≤ r.n ∧ r.n ≤ 8) by omega), Bool.false_and]
theorem c_grid_row (r : Rl) (s : BitVec 64) (o : Int) (ho : 0 ≤ o ∧ o < 8) (w : World) : Calls Tryz.prog 130 #[.agg (relC r), U s, I o] w (Pure (U (growG r s o)) w) := by
 refine enter Tryz.func130 rfl Tryz.ntmps130 rfl <| have hH := Hp.start w; SR <| RL.new rfl hH (f := fun b => (.pointer (some ⟨b, 0, none⟩))) (run_box (v := .agg _) rfl) <| fun b3 w1 hH2 => va (v := U 0#64) rfl <| RL.nil <| SR <| mU rfl <| mI rfl <| V (run_mul rfl rfl (by omega)) <| V (run_convIU underlying3 underlying130 rfl) <| V (run_shrU rfl rfl) <| V (fA underlying60 0 rfl sizeOf3 rfl) <| V (run_ld underlying3 rfl rfl (hH2.cell (i := 0) rfl (relC_N _))) <| RL.callP rfl hH2 (c_mask_Below _  _) (run_call1 call88 rfl) <| fun w4 hH5 => V (run_andU rfl rfl) <| aU rfl <| RL.nil <| CW.ret <| outP1 Tryz.results130 (congrArg U ?_) hH5.below
 rfl
theorem c_grid_rows (r : Rl) (f : FuncId) (cs : List Value) (ff : Int → BitVec 64) (hn : 1 ≤ r.n ∧ r.n ≤ 8) (w : World) (hf : ∀ args w, (callFunc f args).run Tryz.prog w = .ok (.enter f args) w) (go : ∀ i w', Below w.heap.size w w' → 0 ≤ i → i < r.n → Calls Tryz.prog f (I i :: cs).toArray w' (Pure (U (ff i)) w')) : Calls Tryz.prog 124 #[.agg (relC r), .func (.func f) #[] cs.toArray] w (Pure (U (rowsG ff r.n)) w) := by
 refine enter Tryz.func124 rfl Tryz.ntmps124 rfl <| have hH := Hp.start w; SR <| RL.new rfl hH (f := fun b => (.pointer (some ⟨b, 0, none⟩))) (run_box (v := .agg _) rfl) <| fun b3 w1 hH2 => va (v := U 0#64) rfl <| RL.nil <| SR <| va (v := U 0#64) rfl <| RL.nil <| CW.seq <| SR <| V (fA underlying60 0 rfl sizeOf3 rfl) <| V (run_ld underlying3 rfl rfl (hH2.cell (i := 0) rfl (relC_N _))) <| vm (v := I 0) rfl <| RL.nil <| CW.block <| CW.loop (G := Int) (fun k s' w' => (Fr (5 :: 6 :: (rg 9 13 [])) _ s') ∧ (Hp w w' _) ∧ (s' 5 = U (rowsG ff k)) ∧ (s' 9 = I k) ∧ (0 ≤ k) ∧ (k ≤ r.n)) (fun k => (r.n - k).toNat) (0) ⟨Fr.refl _ _, hH2, rfl, rfl, (by omega), (by omega)⟩ <| ?_
 rintro k sg4 w4 ⟨fr4, hH4, e5_4, e9_4, h0, hk⟩
 have e1_4 := fr4.vv 1 (a := .func _ _ _) rfl rfl
 have e8_4 := fr4.ii 8 rfl rfl
 refine SR <| V (run_lss e9_4 e8_4) <| RL.nil <| CW.seq <| CW.condP rfl (fun h6 => ?_) (fun h6 => ?_)
 ·refine CW.skip <| CW.seq <| CW.block <| SR <| vm e9_4 <| aI rfl <| RL.nil <| CW.region <| vm e5_4 <| vm e1_4 <| mI rfl <| RL.callP rfl hH4 (go _ _ hH4.below (by omega) (by omega)) (run_callC1 hf (cs := cs) rfl rfl) <| fun w7 hH8 => mI rfl <| V (run_mul rfl rfl (by omega)) <| V (run_convIU underlying3 underlying130 rfl) <| V (run_shlU rfl rfl) <| V (run_orU rfl rfl) <| aU rfl <| RL.nil <| CW.region <| V (run_add e9_4 rfl (by omega)) <| mI rfl <| RL.nil <| ?_
  refine ⟨k + 1, ?_, fr4.u4.u4.u4.u1.u1.u1, hH8, (congrArg U (rows_next h0)), (congrArg I (by rfl)), ?_, ?_⟩
  ·((try dsimp only); omega)
  ·omega
  ·omega
 ·refine CW.exit (id := 0) rfl <| SR <| vm e5_4 <| aU rfl <| RL.nil <| CW.ret <| outP1 Tryz.results124 (congrArg U ?_) hH4.below
  (rw [show k = r.n by omega])
theorem c_grid_Close_1 (b c : Nat) (r : Rl) (s : BitVec 64) (o : Int) (hr : rightG r = true) (w : World) (hb : w.heap[b]? = some (.cells (relC r) 60 (0, 0))) (hc : w.heap[c]? = some (.cells #[U s] 37 (0, 0))) (hT : Tab w) : Calls Tryz.prog 125 #[I o, .pointer (some ⟨b, 0, none⟩), .pointer (some ⟨c, 0, none⟩)] w (Pure (U (closeF r s o)) w) := by
 have hl := lst_len (upR r (ofl [o]))
 refine enter Tryz.func125 rfl Tryz.ntmps125 rfl <| have hH := Hp.start w; SR <| va (v := U 0#64) rfl <| RL.nil <| SR <| va (v := U 0#64) rfl <| RL.nil <| CW.seq <| CW.seq <| CW.regionD (by kernel_rfl) hH <| fun w1 hH2 => have zh2 := hH2.sub sR; AT 0 rfl zh2 (fun w hS => run_ldRel underlying60 rfl rfl rfl (hS.ext hb)) <| AQ 1 rfl zh2 (mV (I _) rfl) <| AQ 7 rfl zh2 (mV (I 0) rfl) <| A1 2 <| AO.new rfl gnone rfl hH2 sR (f := fun b => .slice (some ⟨b, 0, none⟩) 1 1) (run_mkL underlying111 rfl rfl (sz := 1) (vs := [I _]) rfl rfl (by decide) (by decide) rfl rfl) <| fun b5 w3 hH4 => ?_
 (try simp only [clX] at hH4)
 have hH6 := hH4.blkRow 1 1 rfl (by decide)
 refine A1 3 <| AO.callP rfl gnone rfl hH6 (sQ sR) (c_mask_Of _ [o] _ (hH6.sl (i := 0) rfl)) (run_call1 call128 rfl) <| fun w7 hH8 => A1 4 <| AO.callP rfl gnone rfl hH8 (sQ sR) (c_relate_Up _ _  _ (hT.hp hH8)) (run_call2 call127 rfl rfl) <| fun w9 hH10 => A1 5 <| AO.callR rfl gnone rfl hH10 (sQ sR) (c_mask_List _  _ (hT.hp hH10)) (run_call1 call126 rfl) <| fun v13 w11 hH12 => A1 6 <| AO.read rfl gnone rfl hH12 (sQ (sQ sR)) (run_lenSl (hH12.sl (i := 0) rfl) rfl underlying111 rfl) <| AD <| CW.block <| CW.loop (G := Int) (fun k s' w' => (Fr (5 :: (7 :: (rg 15 13 []))) _ s') ∧ (Hp w w' _) ∧ (s' 5 = U (orAll (fun p => downR r (growG r s p)) ((lst (upR r (ofl [o]))).take k.toNat))) ∧ (s' 15 = I k) ∧ (0 ≤ k) ∧ (k ≤ (lst (upR r (ofl [o]))).length)) (fun k => ((lst (upR r (ofl [o]))).length - k).toNat) (0) ⟨Fr.refl _ _, hH12, (congrArg U (by simp [orAll])), rfl, (by omega), (by omega)⟩ <| ?_
 rintro k sg16 w16 ⟨fr16, hH16, e5_16, e15_16, h0, hk⟩
 have e1_16 := (fr16 1 rfl).trans (by conv => lhs; whnf)
 have e2_16 := (fr16 2 rfl).trans (by conv => lhs; whnf)
 have e13_16 := (fr16 13 rfl).trans (by conv => lhs; whnf)
 have e14_16 := fr16.ii 14 rfl rfl
 refine SR <| V (run_lss e15_16 e14_16) <| RL.nil <| CW.seq <| CW.condP rfl (fun h18 => ?_) (fun h18 => ?_)
 ·refine CW.skip <| CW.seq <| CW.block <| SR <| V (run_indexAddrS (hH16.sl (i := 0) rfl) underlying111 sizeOf3 e13_16 e15_16 (by omega)) <| V (run_ld underlying3 rfl rfl ((hH16.sl (i := 0) rfl).cell _ _ (map_at (by omega)))) <| aI rfl <| RL.nil <| CW.regionD (by kernel_rfl) hH16 <| fun w19 hH20 => have zh20 := hH20.sub sR; AQ 0 rfl zh20 (run_move e5_16) <| AT 1 rfl zh20 (fun w hS => run_ldRel underlying60 rfl rfl e1_16 (hS.ext hb)) <| AT 2 rfl zh20 (fun w hS => run_ldRel underlying60 rfl rfl e1_16 (hS.ext hb)) <| AT 3 rfl zh20 (fun w hS => run_ld underlying37 rfl e2_16 (hS.extCell hc (v := U _) rfl)) <| AQ 4 rfl zh20 (mV (I _) rfl) <| A1 5 <| AO.callP rfl gnone rfl hH20 sR (c_grid_row _ _ _ (above_lt hr (lst_at h0 ‹_›)) _) (run_call3 call130 rfl rfl rfl) <| fun w21 hH22 => A1 6 <| AO.callP rfl gnone rfl hH22 sR (c_relate_Down _ _  _) (run_call2 call129 rfl rfl) <| fun w23 hH24 => AQ 7 rfl (hH24.sub sR) (run_orU rfl rfl) <| AQ 8 rfl (hH24.sub sR) (aV (U _) rfl) <| AD <| CW.region <| V (run_add e15_16 rfl (by omega)) <| mI rfl <| RL.nil <| ?_
  refine ⟨k + 1, ?_, fr16.u4.u4.u4.u1.u1.u1, hH24, (congrArg U (orAll_next (f := fun p => downR r (growG r s p)) h0 ‹_›)), (congrArg I (by rfl)), ?_, ?_⟩
  ·((try dsimp only); omega)
  ·omega
  ·omega
 ·refine CW.exit (id := 0) rfl <| SR <| vm e5_16 <| aU rfl <| RL.nil <| CW.ret <| outP1 Tryz.results125 (congrArg U ?_) hH16.below
  (rw [take_all ‹_›]; rfl)
theorem c_grid_Close (r : Rl) (s : BitVec 64) (w : World) (hT : Tab w) : Calls Tryz.prog 109 #[.agg (relC r), U s] w (Pure (U (closeG r s)) w) := by
 refine enter Tryz.func109 rfl Tryz.ntmps109 rfl <| have hH := Hp.start w; SR <| RL.new rfl hH (f := fun b => (.pointer (some ⟨b, 0, none⟩))) (run_box (v := .agg _) rfl) <| fun b3 w1 hH2 => RL.new rfl hH2 (f := fun b => (.pointer (some ⟨b, 0, none⟩))) (run_box (v := U _) rfl) <| fun b6 w4 hH5 => va (v := U 0#64) rfl <| RL.nil <| CW.seq <| SR <| V (run_ldRel underlying60 rfl rfl rfl (hH5.blk (i := 1) rfl)) <| RL.callP rfl hH5 (c_grid_Right _  _) (run_call1 call102 rfl) <| fun w7 hH8 => V (run_not rfl) <| RL.nil <| CW.cond rfl (fun h11 => ?_) (fun h11 => ?_)
 ·refine SR <| va (v := U 0#64) rfl <| RL.nil <| CW.ret <| outP1 Tryz.results109 (congrArg U ?_) hH8.below
  exact (close_no (nt ‹_›)).symm
 ·refine CW.skip <| SR <| V (run_ldRel underlying60 rfl rfl rfl (hH8.blk (i := 1) rfl)) <| ?_
  refine V (run_mkF2 (by conv => lhs; whnf) (by conv => lhs; whnf)) ?_
  refine RL.callP rfl hH8 (c_grid_rows r 125 [.pointer (some ⟨b3, 0, none⟩), .pointer (some ⟨b6, 0, none⟩)] (closeF r s) (right_spec (nf ‹(!rightG r) = false›)).1 _ call125 (fun i w h _ _ => c_grid_Close_1 b3 b6 r s i (nf ‹(!rightG r) = false›) w (keep h (hH8.blk (i := 1) rfl)) (keep h (hH8.blk (i := 0) rfl)) ((hT.hp hH8).below h))) (run_call2 call124 rfl rfl) <| fun w12 hH13 => aU rfl <| RL.nil <| CW.ret <| outP1 Tryz.results109 (congrArg U ?_) hH13.below
  exact close_yes (nf ‹_›)
theorem c_grid_Closed (r : Rl) (s : BitVec 64) (w : World) (hT : Tab w) : Calls Tryz.prog 89 #[.agg (relC r), U s] w (Pure (B (closedG r s)) w) := by
 refine enter Tryz.func89 rfl Tryz.ntmps89 rfl <| have hH := Hp.start w; SR <| RL.new rfl hH (f := fun b => (.pointer (some ⟨b, 0, none⟩))) (run_box (v := .agg _) rfl) <| fun b3 w1 hH2 => va (v := B false) rfl <| RL.nil <| SR <| V (run_ldRel underlying60 rfl rfl rfl (hH2.blk (i := 0) rfl)) <| RL.callP rfl hH2 (c_grid_Right _  _) (run_call1 call102 rfl) <| fun w4 hH5 => mB rfl <| RL.split (dj := 7) rfl (fun h7 => ?_) (fun h7 => ?_)
 ·refine gT rfl (bR (c := true) h7) <| V (run_ldRel underlying60 rfl rfl rfl (hH5.blk (i := 0) rfl)) <| gT rfl (bR (c := true) h7) <| mU rfl <| gT rfl (bR (c := true) h7) <| RL.callP rfl hH5 (c_grid_Close _ _  _ (hT.hp hH5)) (run_call2 call109 rfl rfl) <| fun w8 hH9 => gT rfl (bR (c := true) h7) <| mU rfl <| gT rfl (bR (c := true) h7) <| V (run_eqlU rfl rfl) <| V (run_pickT (bR (c := true) h7) (v := B _) rfl) <| aB rfl <| RL.nil <| CW.ret <| outP1 Tryz.results89 (congrArg B ?_) hH9.below
  (rw [closedG, ‹rightG r = true›]; rfl)
 ·refine gF rfl (bR (c := false) h7) <| gF rfl (bR (c := false) h7) <| gF rfl (bR (c := false) h7) <| gF rfl (bR (c := false) h7) <| gF rfl (bR (c := false) h7) <| V (run_pickF (bR (c := false) h7) (v := B false) rfl) <| aB rfl <| RL.nil <| CW.ret <| outP1 Tryz.results89 (congrArg B ?_) hH5.below
  (rw [closedG, ‹rightG r = false›]; rfl)
theorem c_clearanceref05_Right (r : Rl) (w : World) : Calls Tryz.prog 85 #[.agg (relC r)] w (Pure (B (rightG r)) w) := by
 refine enter Tryz.func85 rfl Tryz.ntmps85 rfl <| have hH := Hp.start w; SR <| RL.new rfl hH (f := fun b => (.pointer (some ⟨b, 0, none⟩))) (run_box (v := .agg _) rfl) <| fun b3 w1 hH2 => va (v := B false) rfl <| RL.nil <| SR <| V (fA underlying60 0 rfl sizeOf3 rfl) <| V (run_ld underlying3 rfl rfl (hH2.cell (i := 0) rfl (relC_N _))) <| V (run_geq rfl rfl) <| mB rfl <| RL.splitP (dj := 6) rfl (fun h5 => ?_) (fun h5 => ?_)
 ·refine gT rfl (bT h5) <| V (fA underlying60 0 rfl sizeOf3 rfl) <| gT rfl (bT h5) <| V (run_ld underlying3 rfl rfl (hH2.cell (i := 0) rfl (relC_N _))) <| gT rfl (bT h5) <| V (run_leq rfl rfl) <| V (run_pickT (bT h5) (v := B _) rfl) <| mB rfl <| RL.splitP (dj := 11) rfl (fun h7 => ?_) (fun h7 => ?_)
  ·refine gT rfl (bT h7) <| V (run_ldRel underlying60 rfl rfl rfl (hH2.blk (i := 0) rfl)) <| gT rfl (bT h7) <| RL.callP rfl hH2 (c_clearanceref03_Closed _  _) (run_call1 call105 rfl) <| fun w8 hH9 => V (run_pickT (bT h7) (v := B _) rfl) <| aB rfl <| RL.nil <| CW.ret <| outP1 Tryz.results85 (congrArg B ?_) hH9.below
   rw [rightG, decide_eq_true (show 1 ≤ r.n ∧ r.n ≤ 8 by omega), Bool.true_and]
  ·refine gF rfl (bF h7) <| gF rfl (bF h7) <| V (run_pickF (bF h7) (v := B false) rfl) <| aB rfl <| RL.nil <| CW.ret <| outP1 Tryz.results85 (congrArg B ?_) hH2.below
   rw [rightG, decide_eq_false (show ¬ (1 ≤ r.n ∧ r.n ≤ 8) by omega), Bool.false_and]
 ·refine gF rfl (bF h5) <| gF rfl (bF h5) <| gF rfl (bF h5) <| V (run_pickF (bF h5) (v := B false) rfl) <| mB rfl <| gF rfl rfl <| gF rfl rfl <| V (run_pickF rfl (v := B false) rfl) <| aB rfl <| RL.nil <| CW.ret <| outP1 Tryz.results85 (congrArg B ?_) hH2.below
  rw [rightG, decide_eq_false (show ¬ (1 ≤ r.n ∧ r.n ≤ 8) by omega), Bool.false_and]
theorem c_name_letter (c : Int) (w : World) : Calls Tryz.prog 78 #[.int .u8 c] w (Pure (B (letterB c)) w) := by
 refine enter Tryz.func78 rfl Tryz.ntmps78 rfl <| have hH := Hp.start w; SR <| va (v := B false) rfl <| RL.nil <| SR <| vm (v := .int _ _) rfl <| V (run_geq rfl rfl) <| mB rfl <| RL.splitP (dj := 5) rfl (fun h2 => ?_) (fun h2 => ?_)
 ·refine gT rfl (bT h2) <| vm (v := .int _ _) rfl <| gT rfl (bT h2) <| V (run_leq rfl rfl) <| V (run_pickT (bT h2) (v := B _) rfl) <| aB rfl <| RL.nil <| CW.ret <| outP1 Tryz.results78 (congrArg B ?_) hH.below
  (rw [letterB, Bool.eq_iff_iff]; simp only [decide_eq_true_eq, Bool.false_eq_true, false_iff]; omega)
 ·refine gF rfl (bF h2) <| gF rfl (bF h2) <| V (run_pickF (bF h2) (v := B false) rfl) <| aB rfl <| RL.nil <| CW.ret <| outP1 Tryz.results78 (congrArg B ?_) hH.below
  (rw [letterB, Bool.eq_iff_iff]; simp only [decide_eq_true_eq, Bool.false_eq_true, false_iff]; omega)
theorem c_clearanceref02_letter (c : Int) (w : World) : Calls Tryz.prog 65 #[.int .u8 c] w (Pure (B (letterB c)) w) := by
 refine enter Tryz.func65 rfl Tryz.ntmps65 rfl <| have hH := Hp.start w; SR <| va (v := B false) rfl <| RL.nil <| SR <| vm (v := .int _ _) rfl <| V (run_geq rfl rfl) <| mB rfl <| RL.splitP (dj := 5) rfl (fun h2 => ?_) (fun h2 => ?_)
 ·refine gT rfl (bT h2) <| vm (v := .int _ _) rfl <| gT rfl (bT h2) <| V (run_leq rfl rfl) <| V (run_pickT (bT h2) (v := B _) rfl) <| aB rfl <| RL.nil <| CW.ret <| outP1 Tryz.results65 (congrArg B ?_) hH.below
  (rw [letterB, Bool.eq_iff_iff]; simp only [decide_eq_true_eq, Bool.false_eq_true, false_iff]; omega)
 ·refine gF rfl (bF h2) <| gF rfl (bF h2) <| V (run_pickF (bF h2) (v := B false) rfl) <| aB rfl <| RL.nil <| CW.ret <| outP1 Tryz.results65 (congrArg B ?_) hH.below
  (rw [letterB, Bool.eq_iff_iff]; simp only [decide_eq_true_eq, Bool.false_eq_true, false_iff]; omega)
theorem c_name_goes (c : Int) (w : World) : Calls Tryz.prog 79 #[.int .u8 c] w (Pure (B (goesB c)) w) := by
 refine enter Tryz.func79 rfl Tryz.ntmps79 rfl <| have hH := Hp.start w; SR <| va (v := B false) rfl <| RL.nil <| SR <| vm (v := .int _ _) rfl <| RL.callP rfl hH (c_name_letter _  _) (run_call1 call78 rfl) <| fun w1 hH2 => mB rfl <| RL.split (dj := 5) rfl (fun h4 => ?_) (fun h4 => ?_)
 ·refine gF rfl (bR (c := true) h4) <| gF rfl (bR (c := true) h4) <| gF rfl (bR (c := true) h4) <| RL.gU rfl rfl rfl <| RL.gU rfl rfl rfl <| gF rfl (bR (c := true) h4) <| V (run_pickT (bR (c := true) h4) (v := B true) rfl) <| mB rfl <| gF rfl rfl <| gF rfl rfl <| V (run_pickT rfl (v := B true) rfl) <| aB rfl <| RL.nil <| CW.ret <| outP1 Tryz.results79 (congrArg B ?_) hH2.below
  exact (goes_letter ‹_›).symm
 ·refine gT rfl (bR (c := false) h4) <| vm (v := .int _ _) rfl <| gT rfl (bR (c := false) h4) <| V (run_geq rfl rfl) <| gT rfl (bR (c := false) h4) <| mB rfl <| RL.splitP (dj := 8) rfl (fun h6 => ?_) (fun h6 => ?_)
  ·refine gT rfl (bT h6) <| vm (v := .int _ _) rfl <| gT rfl (bT h6) <| V (run_leq rfl rfl) <| gT rfl (bR (c := false) h4) <| V (run_pickT (bT h6) (v := B _) rfl) <| V (run_pickF (bR (c := false) h4) (v := B _) rfl) <| mB rfl <| RL.splitP (dj := 13) rfl (fun h8 => ?_) (fun h8 => ?_)
   ·refine gF rfl (bT h8) <| gF rfl (bT h8) <| V (run_pickT (bT h8) (v := B true) rfl) <| aB rfl <| RL.nil <| CW.ret <| outP1 Tryz.results79 (congrArg B ?_) hH2.below
    (have hlc := ‹letterB c = false›; rw [letterB, decide_eq_false_iff_not] at hlc; rw [goesB, Bool.eq_iff_iff]; simp only [decide_eq_true_eq, Bool.false_eq_true, false_iff, true_iff]; omega)
   ·refine gT rfl (bF h8) <| vm (v := .int _ _) rfl <| gT rfl (bF h8) <| V (run_eql rfl rfl) <| V (run_pickF (bF h8) (v := B _) rfl) <| aB rfl <| RL.nil <| CW.ret <| outP1 Tryz.results79 (congrArg B ?_) hH2.below
    (have hlc := ‹letterB c = false›; rw [letterB, decide_eq_false_iff_not] at hlc; rw [goesB, Bool.eq_iff_iff]; simp only [decide_eq_true_eq, Bool.false_eq_true, false_iff, true_iff]; omega)
  ·refine gF rfl (bF h6) <| gF rfl (bF h6) <| gT rfl (bR (c := false) h4) <| V (run_pickF (bF h6) (v := B false) rfl) <| V (run_pickF (bR (c := false) h4) (v := B _) rfl) <| mB rfl <| gT rfl rfl <| vm (v := .int _ _) rfl <| gT rfl rfl <| V (run_eql rfl rfl) <| V (run_pickF rfl (v := B _) rfl) <| aB rfl <| RL.nil <| CW.ret <| outP1 Tryz.results79 (congrArg B ?_) hH2.below
   (have hlc := ‹letterB c = false›; rw [letterB, decide_eq_false_iff_not] at hlc; rw [goesB, Bool.eq_iff_iff]; simp only [decide_eq_true_eq, Bool.false_eq_true, false_iff, true_iff]; omega)
theorem c_name_Right (s : Tx) (w : World) : Calls Tryz.prog 54 #[S s] w (Pure (B (nameR s)) w) := by
 have htx := @tx_nil s
 refine enter Tryz.func54 rfl Tryz.ntmps54 rfl <| have hH := Hp.start w; SR <| va (v := B false) rfl <| RL.nil <| CW.seq <| SR <| vm (v := .string _) rfl <| V (run_eqlS rfl rfl) <| mB rfl <| RL.splitP (dj := 6) rfl (fun h2 => ?_) (fun h2 => ?_)
 ·refine gF rfl (bT h2) <| gF rfl (bT h2) <| gF rfl (bT h2) <| V (run_pickT (bT h2) (v := B true) rfl) <| mB rfl <| gF rfl rfl <| gF rfl rfl <| gF rfl rfl <| gF rfl rfl <| V (run_pickT rfl (v := B true) rfl) <| RL.nil <| CW.condT rfl <| SR <| va (v := B false) rfl <| RL.nil <| CW.ret <| outP1 Tryz.results54 (congrArg B ?_) hH.below
  exact (nameR_no1 (by have := htx.1 ‹s = tx0›; omega)).symm
 ·refine gT rfl (bF h2) <| vm (v := .string _) rfl <| gT rfl (bF h2) <| V (run_lenStr rfl underlying9 rfl) <| gT rfl (bF h2) <| V (run_gtr rfl rfl) <| V (run_pickF (bF h2) (v := B _) rfl) <| mB rfl <| RL.splitP (dj := 11) rfl (fun h4 => ?_) (fun h4 => ?_)
  ·refine gF rfl (bT h4) <| gF rfl (bT h4) <| gF rfl (bT h4) <| gF rfl (bT h4) <| V (run_pickT (bT h4) (v := B true) rfl) <| RL.nil <| CW.condT rfl <| SR <| va (v := B false) rfl <| RL.nil <| CW.ret <| outP1 Tryz.results54 (congrArg B ?_) hH.below
   exact (nameR_no1 (by omega)).symm
  ·refine gT rfl (bF h4) <| vm (v := .string _) rfl <| gT rfl (bF h4) <| V (run_idxS underlying9 rfl rfl (by have := mt htx.2 ‹¬ s = tx0›; omega)) <| gT rfl (bF h4) <| RL.callP rfl hH (c_name_letter _  _) (run_call1 call78 rfl) <| fun w5 hH6 => gT rfl (bF h4) <| V (run_not rfl) <| V (run_pickF (bF h4) (v := B _) rfl) <| RL.nil <| CW.cond rfl (fun h9 => ?_) (fun h9 => ?_)
   ·refine SR <| va (v := B false) rfl <| RL.nil <| CW.ret <| outP1 Tryz.results54 (congrArg B ?_) hH6.below
    exact (nameR_no2 (nt ‹_›)).symm
   ·refine CW.skip <| CW.seq <| SR <| vm (v := .string _) rfl <| V (run_lenStr rfl underlying9 rfl) <| vm (v := I 0) rfl <| RL.nil <| CW.block <| have hsz : 1 ≤ s.size ∧ s.size ≤ 16 := ⟨by have := mt htx.2 ‹¬ s = tx0›; omega, by omega⟩; CW.loop (G := Int) (fun k s' w' => (Fr (2 :: 3 :: (rg 19 9 [])) _ s') ∧ (Hp w w' _) ∧ (s' 19 = I k) ∧ (0 ≤ k) ∧ (k ≤ s.size) ∧ (∀ j : Int, 0 ≤ j → j < k → goesB (byteAt s j) = true)) (fun k => (s.size - k).toNat) (0) ⟨Fr.refl _ _, hH6, rfl, (by omega), (by omega), fun j a b => absurd b (by omega)⟩ <| ?_
    rintro k sg10 w10 ⟨fr10, hH10, e19_10, h0, hk, hf⟩
    have e0_10 := fr10.ss 0 rfl rfl
    have e18_10 := fr10.ii 18 rfl rfl
    refine SR <| V (run_lss e19_10 e18_10) <| RL.nil <| CW.seq <| CW.condP rfl (fun h12 => ?_) (fun h12 => ?_)
    ·refine CW.skip <| CW.seq <| CW.block <| SR <| vm e19_10 <| aI rfl <| RL.nil <| SR <| vm e0_10 <| mI rfl <| V (run_idxS underlying9 rfl rfl (by omega)) <| RL.callP rfl hH10 (c_name_goes _  _) (run_call1 call79 rfl) <| fun w13 hH14 => V (run_not rfl) <| RL.nil <| CW.cond rfl (fun h17 => ?_) (fun h17 => ?_)
     ·refine SR <| va (v := B false) rfl <| RL.nil <| CW.ret <| outP1 Tryz.results54 (congrArg B ?_) hH14.below
      exact (nameR_no3 h0 ‹_› (nt ‹_›)).symm
     ·refine CW.skip <| CW.region <| V (run_add e19_10 rfl (by omega)) <| mI rfl <| RL.nil <| ?_
      refine ⟨k + 1, ?_, fr10.u4.u4.u1.u1, hH14, (congrArg I (by rfl)), ?_, ?_, ?_⟩
      ·((try dsimp only); omega)
      ·omega
      ·omega
      ·exact fun j a b => if e : j = k then e ▸ nf ‹_› else hf j a (by omega)
    ·refine CW.exit (id := 0) rfl <| SR <| va (v := B true) rfl <| RL.nil <| CW.ret <| outP1 Tryz.results54 (congrArg B ?_) hH10.below
     exact (nameR_yes hsz (nf ‹_›) ‹_› hf).symm
theorem c_clearanceref02_Right (s : Tx) (w : World) : Calls Tryz.prog 36 #[S s] w (Pure (B (nameR s)) w) := by
 refine enter Tryz.func36 rfl Tryz.ntmps36 rfl <| have hH := Hp.start w; SR <| va (v := B false) rfl <| RL.nil <| CW.seq <| SR <| vm (v := .string _) rfl <| V (run_lenStr rfl underlying9 rfl) <| V (run_lss rfl rfl) <| mB rfl <| RL.splitP (dj := 7) rfl (fun h2 => ?_) (fun h2 => ?_)
 ·refine gF rfl (bT h2) <| gF rfl (bT h2) <| gF rfl (bT h2) <| V (run_pickT (bT h2) (v := B true) rfl) <| mB rfl <| gF rfl rfl <| gF rfl rfl <| gF rfl rfl <| gF rfl rfl <| V (run_pickT rfl (v := B true) rfl) <| RL.nil <| CW.condT rfl <| SR <| va (v := B false) rfl <| RL.nil <| CW.ret <| outP1 Tryz.results36 (congrArg B ?_) hH.below
  exact (nameR_no1 (by omega)).symm
 ·refine gT rfl (bF h2) <| vm (v := .string _) rfl <| gT rfl (bF h2) <| V (run_lenStr rfl underlying9 rfl) <| gT rfl (bF h2) <| V (run_gtr rfl rfl) <| V (run_pickF (bF h2) (v := B _) rfl) <| mB rfl <| RL.splitP (dj := 12) rfl (fun h4 => ?_) (fun h4 => ?_)
  ·refine gF rfl (bT h4) <| gF rfl (bT h4) <| gF rfl (bT h4) <| gF rfl (bT h4) <| V (run_pickT (bT h4) (v := B true) rfl) <| RL.nil <| CW.condT rfl <| SR <| va (v := B false) rfl <| RL.nil <| CW.ret <| outP1 Tryz.results36 (congrArg B ?_) hH.below
   exact (nameR_no1 (by omega)).symm
  ·refine gT rfl (bF h4) <| vm (v := .string _) rfl <| gT rfl (bF h4) <| V (run_idxS underlying9 rfl rfl (by omega)) <| gT rfl (bF h4) <| RL.callP rfl hH (c_clearanceref02_letter _  _) (run_call1 call65 rfl) <| fun w5 hH6 => gT rfl (bF h4) <| V (run_not rfl) <| V (run_pickF (bF h4) (v := B _) rfl) <| RL.nil <| CW.cond rfl (fun h9 => ?_) (fun h9 => ?_)
   ·refine SR <| va (v := B false) rfl <| RL.nil <| CW.ret <| outP1 Tryz.results36 (congrArg B ?_) hH6.below
    exact (nameR_no2 (nt ‹_›)).symm
   ·refine CW.skip <| CW.seq <| SR <| va (v := I 1) rfl <| RL.nil <| CW.block <| have hsz : 1 ≤ s.size ∧ s.size ≤ 16 := (by omega); have hlt : letterB (byteAt s 0) = true := nf ‹_›; CW.loop (G := Int) (fun k s' w' => (Fr (2 :: 3 :: (rg 18 29 [])) _ s') ∧ (Hp w w' _) ∧ (s' 3 = I k) ∧ (1 ≤ k) ∧ (k ≤ s.size) ∧ (∀ j : Int, 0 ≤ j → j < k → goesB (byteAt s j) = true)) (fun k => (s.size - k).toNat) (1) ⟨Fr.refl _ _, hH6, rfl, (by omega), (by omega), fun j a b => by rw [show j = 0 by omega]; exact goes_letter hlt⟩ <| ?_
    rintro k sg10 w10 ⟨fr10, hH10, e3_10, h0, hk, hf⟩
    have e0_10 := fr10.ss 0 rfl rfl
    refine CW.seq <| SR <| vm e3_10 <| vm e0_10 <| V (run_lenStr rfl underlying9 rfl) <| V (run_lss rfl rfl) <| RL.nil <| CW.condP rfl (fun h12 => ?_) (fun h12 => ?_)
    ·refine CW.skip <| CW.seq <| CW.block <| SR <| vm e0_10 <| vm e3_10 <| V (run_idxS underlying9 rfl rfl (by omega)) <| RL.callP rfl hH10 (c_clearanceref02_letter _  _) (run_call1 call65 rfl) <| fun w13 hH14 => V (run_not rfl) <| mB rfl <| RL.split (dj := 29) rfl (fun h17 => ?_) (fun h17 => ?_)
     ·refine gT rfl (bR (c := true) h17) <| vm e0_10 <| gT rfl (bR (c := true) h17) <| vm e3_10 <| gT rfl (bR (c := true) h17) <| V (run_idxS underlying9 rfl rfl (by omega)) <| gT rfl (bR (c := true) h17) <| V (run_lss rfl rfl) <| gT rfl (bR (c := true) h17) <| mB rfl <| RL.splitP (dj := 34) rfl (fun h19 => ?_) (fun h19 => ?_)
      ·refine gF rfl (bT h19) <| gF rfl (bT h19) <| gF rfl (bT h19) <| gF rfl (bT h19) <| gT rfl (bR (c := true) h17) <| V (run_pickT (bT h19) (v := B true) rfl) <| V (run_pickT (bR (c := true) h17) (v := B _) rfl) <| mB rfl <| gT rfl rfl <| vm e0_10 <| gT rfl rfl <| vm e3_10 <| gT rfl rfl <| V (run_idxS underlying9 rfl rfl (by omega)) <| gT rfl rfl <| V (run_neq rfl rfl) <| V (run_pickT rfl (v := B _) rfl) <| RL.nil <| CW.condP rfl (fun h21 => ?_) (fun h21 => ?_)
       ·refine SR <| va (v := B false) rfl <| RL.nil <| CW.ret <| outP1 Tryz.results36 (congrArg B ?_) hH14.below
        exact (nameR_no3 (i := k) (by omega) ‹_› (by have hlc := nt ‹(!letterB (byteAt s k)) = true›; rw [letterB, decide_eq_false_iff_not] at hlc; rw [goesB, decide_eq_false_iff_not]; omega)).symm
       ·refine CW.skip <| CW.region <| vm e3_10 <| V (run_add rfl rfl (by omega)) <| aI rfl <| RL.nil <| ?_
        refine ⟨k + 1, ?_, fr10.u4.u4.u4.u4.u4.u4.u4.u1.u1, hH14, (congrArg I (by rfl)), ?_, ?_, ?_⟩
        ·((try dsimp only); omega)
        ·omega
        ·omega
        ·exact fun j a b => if e : j = k then e ▸ (by rw [goesB, decide_eq_true_eq]; omega) else hf j a (by omega)
      ·refine gT rfl (bF h19) <| vm e0_10 <| gT rfl (bF h19) <| vm e3_10 <| gT rfl (bF h19) <| V (run_idxS underlying9 rfl rfl (by omega)) <| gT rfl (bF h19) <| V (run_gtr rfl rfl) <| gT rfl (bR (c := true) h17) <| V (run_pickF (bF h19) (v := B _) rfl) <| V (run_pickT (bR (c := true) h17) (v := B _) rfl) <| mB rfl <| RL.splitP (dj := 41) rfl (fun h23 => ?_) (fun h23 => ?_)
       ·refine gT rfl (bT h23) <| vm e0_10 <| gT rfl (bT h23) <| vm e3_10 <| gT rfl (bT h23) <| V (run_idxS underlying9 rfl rfl (by omega)) <| gT rfl (bT h23) <| V (run_neq rfl rfl) <| V (run_pickT (bT h23) (v := B _) rfl) <| RL.nil <| CW.condP rfl (fun h25 => ?_) (fun h25 => ?_)
        ·refine SR <| va (v := B false) rfl <| RL.nil <| CW.ret <| outP1 Tryz.results36 (congrArg B ?_) hH14.below
         exact (nameR_no3 (i := k) (by omega) ‹_› (by have hlc := nt ‹(!letterB (byteAt s k)) = true›; rw [letterB, decide_eq_false_iff_not] at hlc; rw [goesB, decide_eq_false_iff_not]; omega)).symm
        ·refine CW.skip <| CW.region <| vm e3_10 <| V (run_add rfl rfl (by omega)) <| aI rfl <| RL.nil <| ?_
         refine ⟨k + 1, ?_, fr10.u4.u4.u4.u4.u4.u4.u4.u1.u1, hH14, (congrArg I (by rfl)), ?_, ?_, ?_⟩
         ·((try dsimp only); omega)
         ·omega
         ·omega
         ·exact fun j a b => if e : j = k then e ▸ (by rw [goesB, decide_eq_true_eq]; omega) else hf j a (by omega)
       ·refine gF rfl (bF h23) <| gF rfl (bF h23) <| gF rfl (bF h23) <| gF rfl (bF h23) <| V (run_pickF (bF h23) (v := B false) rfl) <| RL.nil <| CW.condF rfl <| CW.skip <| CW.region <| vm e3_10 <| V (run_add rfl rfl (by omega)) <| aI rfl <| RL.nil <| ?_
        refine ⟨k + 1, ?_, fr10.u4.u4.u4.u4.u4.u4.u4.u1.u1, hH14, (congrArg I (by rfl)), ?_, ?_, ?_⟩
        ·((try dsimp only); omega)
        ·omega
        ·omega
        ·exact fun j a b => if e : j = k then e ▸ (by rw [goesB, decide_eq_true_eq]; omega) else hf j a (by omega)
     ·refine gF rfl (bR (c := false) h17) <| gF rfl (bR (c := false) h17) <| gF rfl (bR (c := false) h17) <| gF rfl (bR (c := false) h17) <| gF rfl (bR (c := false) h17) <| RL.gU rfl rfl rfl <| RL.gU rfl rfl rfl <| RL.gU rfl rfl rfl <| RL.gU rfl rfl rfl <| gF rfl (bR (c := false) h17) <| V (run_pickF (bR (c := false) h17) (v := B false) rfl) <| mB rfl <| gF rfl rfl <| gF rfl rfl <| gF rfl rfl <| gF rfl rfl <| V (run_pickF rfl (v := B false) rfl) <| RL.nil <| CW.condF rfl <| CW.skip <| CW.region <| vm e3_10 <| V (run_add rfl rfl (by omega)) <| aI rfl <| RL.nil <| ?_
      refine ⟨k + 1, ?_, fr10.u4.u4.u4.u4.u4.u4.u4.u1.u1, hH14, (congrArg I (by rfl)), ?_, ?_, ?_⟩
      ·((try dsimp only); omega)
      ·omega
      ·omega
      ·exact fun j a b => if e : j = k then e ▸ (by exact goes_letter (nf ‹_›)) else hf j a (by omega)
    ·refine CW.exit (id := 0) rfl <| SR <| va (v := B true) rfl <| RL.nil <| CW.ret <| outP1 Tryz.results36 (congrArg B ?_) hH10.below
     exact (nameR_yes hsz hlt ‹_› hf).symm
theorem c_name_place (n : Int) (f : FuncId) (cs : List Value) (P : Int → Bool) (hn : 0 ≤ n ∧ n ≤ 9223372036854775807) (w : World) (hf : ∀ args w, (callFunc f args).run Tryz.prog w = .ok (.enter f args) w) (go : ∀ i w', Below w.heap.size w w' → 0 ≤ i → i < n → Calls Tryz.prog f (I i :: cs).toArray w' (Pure (B (P i)) w')) : Calls Tryz.prog 81 #[I 0, I n, .func (.func f) #[] cs.toArray] w (Pure (I (findV P n)) w) := by
 refine enter Tryz.func81 rfl Tryz.ntmps81 rfl <| have hH := Hp.start w; SR <| va (v := I 0) rfl <| RL.nil <| CW.seq <| SR <| mI rfl <| aI rfl <| RL.nil <| CW.block <| CW.loop (G := Int) (fun k s' w' => (Fr (6 :: 7 :: (rg 9 9 [])) _ s') ∧ (Hp w w' _) ∧ (s' 7 = I k) ∧ (0 ≤ k) ∧ (k ≤ n) ∧ (∀ j : Int, 0 ≤ j → j < k → P j = false)) (fun k => (n - k).toNat) (0) ⟨Fr.refl _ _, hH, rfl, (by omega), (by omega), fun j a b => absurd b (by omega)⟩ <| ?_
 rintro k sg1 w1 ⟨fr1, hH1, e7_1, h0, hk, hg⟩
 have e1_1 := fr1.ii 1 rfl rfl
 have e2_1 := fr1.vv 2 (a := .func _ _ _) rfl rfl
 refine CW.seq <| SR <| vm e7_1 <| vm e1_1 <| V (run_lss rfl rfl) <| RL.nil <| CW.condP rfl (fun h3 => ?_) (fun h3 => ?_)
 ·refine CW.skip <| CW.seq <| CW.block <| SR <| vm e2_1 <| vm e7_1 <| RL.callP rfl hH1 (go _ _ hH1.below (by omega) (by omega)) (run_callC1 hf (cs := cs) rfl rfl) <| fun w4 hH5 => RL.nil <| CW.cond rfl (fun h7 => ?_) (fun h7 => ?_)
  ·refine SR <| vm e7_1 <| aI rfl <| RL.nil <| CW.ret <| outP1 Tryz.results81 (congrArg I ?_) hH5.below
   exact (find_yes h0 ‹_› ‹_› hg).symm
  ·refine CW.skip <| CW.region <| vm e7_1 <| V (run_add rfl rfl (by omega)) <| aI rfl <| RL.nil <| ?_
   refine ⟨k + 1, ?_, fr1.u4.u4.u1, hH5, (congrArg I (by rfl)), ?_, ?_, ?_⟩
   ·((try dsimp only); omega)
   ·omega
   ·omega
   ·exact fun j a b => if e : j = k then e ▸ ‹P k = false› else hg j a (by omega)
 ·refine CW.exit (id := 0) rfl <| SR <| va (v := I (-1)) rfl <| RL.nil <| CW.ret <| outP1 Tryz.results81 (congrArg I ?_) hH1.below
  exact (find_no fun j a b => hg j a (by omega)).symm
theorem c_name_Find_1 (b c : Nat) (v : Value) (l : List Tx) (s : Tx) (i : Int) (hi : 0 ≤ i ∧ i < l.length) (w : World) (hs : Sl w v 1 l.length (txL l)) (hb : w.heap[b]? = some (.cells #[v] 57 (0, 0))) (hc : w.heap[c]? = some (.cells #[S s] 9 (0, 0))) : Calls Tryz.prog 104 #[I i, .pointer (some ⟨b, 0, none⟩), .pointer (some ⟨c, 0, none⟩)] w (Pure (B (decide (l.getD i.toNat tx0 = s))) w) := by
 have hm := hs.small
 unfold maxLen at hm
 refine enter Tryz.func104 rfl Tryz.ntmps104 rfl <| have hH := Hp.start w; SR <| va (v := B false) rfl <| RL.nil <| CW.seq <| CW.regionD (by kernel_rfl) hH <| fun w1 hH2 => have zh2 := hH2.sub sR; AT 0 rfl zh2 (fun w hS => run_ld underlying57 rfl rfl (hS.extCell hb rfl)) <| AQ 1 rfl zh2 (mV (I _) rfl) <| AT 2 rfl zh2 (fun w hS => run_indexAddrS (hs.hp hS) underlying57 sizeOf9 rfl rfl (by omega)) <| AT 3 rfl zh2 (fun w hS => run_ld underlying9 rfl rfl ((hs.hp hS).cell _ _ (txL_at (by omega)))) <| AT 4 rfl zh2 (fun w hS => run_ld underlying9 rfl rfl (hS.extCell hc (v := .string _) rfl)) <| AQ 5 rfl zh2 (run_eqlS rfl rfl) <| AQ 6 rfl zh2 (aV (B _) rfl) <| AD <| CW.ret <| outP1 Tryz.results104 (congrArg B ?_) hH2.below
 rfl
theorem c_name_Find (v : Value) (l : List Tx) (s : Tx) (w : World) (hs : Sl w v 1 l.length (txL l)) : Calls Tryz.prog 83 #[v, S s] w (Pure (I (nfind l s)) w) := by
 have hm := hs.small
 unfold maxLen at hm
 refine enter Tryz.func83 rfl Tryz.ntmps83 rfl <| have hH := Hp.start w; SR <| ?_
 refine RL.new rfl hH (f := fun b => (.pointer (some ⟨b, 0, none⟩))) (run_box (by conv => lhs; whnf)) ?_
 intro b3 w1 hH2
 rw [(one_sl hs).2] at hH2
 refine RL.new rfl hH2 (f := fun b => (.pointer (some ⟨b, 0, none⟩))) (run_box (v := .string _) rfl) <| fun b6 w4 hH5 => va (v := I 0) rfl <| RL.nil <| SR <| V (run_ld underlying57 rfl rfl (hH5.cell (i := 1) rfl rfl)) <| V (run_lenSl (hs.hp hH5) rfl underlying57 rfl) <| ?_
 refine V (run_mkF2 (by conv => lhs; whnf) (by conv => lhs; whnf)) ?_
 refine RL.callP rfl hH5 (c_name_place _ 104 [.pointer (some ⟨b3, 0, none⟩), .pointer (some ⟨b6, 0, none⟩)] (fun i => decide (l.getD i.toNat tx0 = s)) (by omega) _ call104 (fun i w h h0 h1 => c_name_Find_1 b3 b6 v l s i ⟨h0, h1⟩ w ((hs.hp hH5).below h) (keep h (hH5.blk (i := 1) rfl)) (keep h (hH5.blk (i := 0) rfl)))) (run_call3 call81 (show _ = I 0 from rfl) rfl rfl) <| fun w7 hH8 => aI rfl <| RL.nil <| CW.ret <| outP1 Tryz.results83 (congrArg I ?_) hH8.below
 rfl
theorem c_name_Twice_1 (b : Nat) (v : Value) (l : List Tx) (i : Int) (hi : 0 ≤ i ∧ i < l.length) (w : World) (hs : Sl w v 1 l.length (txL l)) (hb : w.heap[b]? = some (.cells #[v] 57 (0, 0))) : Calls Tryz.prog 82 #[I i, .pointer (some ⟨b, 0, none⟩)] w (Pure (B (decide (nfind l (l.getD i.toNat tx0) < i))) w) := by
 have hm := hs.small
 unfold maxLen at hm
 refine enter Tryz.func82 rfl Tryz.ntmps82 rfl <| have hH := Hp.start w; SR <| va (v := B false) rfl <| RL.nil <| CW.seq <| CW.regionD (by kernel_rfl) hH <| fun w1 hH2 => have zh2 := hH2.sub sR; AT 0 rfl zh2 (fun w hS => run_ld underlying57 rfl rfl (hS.extCell hb rfl)) <| AQ 1 rfl zh2 (mV (I _) rfl) <| AT 3 rfl zh2 (fun w hS => run_ld underlying57 rfl rfl (hS.extCell hb rfl)) <| AQ 4 rfl zh2 (mV (I _) rfl) <| AT 5 rfl zh2 (fun w hS => run_indexAddrS (hs.hp hS) underlying57 sizeOf9 rfl rfl (by omega)) <| AT 6 rfl zh2 (fun w hS => run_ld underlying9 rfl rfl ((hs.hp hS).cell _ _ (txL_at (by omega)))) <| A1 2 <| AO.read rfl gnone rfl hH2 sR (run_cut (hs.hp hH2) underlying57 sizeOf9 rfl rfl (by omega)) <| A1 7 <| AO.callP rfl gnone rfl hH2 sR (c_name_Find _ _ _  _ ((hs.hp hH2).cutT (by omega))) (run_call2 call83 rfl rfl) <| fun w5 hH6 => AQ 8 rfl (hH6.sub sR) (run_geq rfl rfl) <| AQ 9 rfl (hH6.sub sR) (aV (B _) rfl) <| AD <| CW.ret <| outP1 Tryz.results82 (congrArg B ?_) hH6.below
 exact tx_ahead hi.1 hi.2
theorem c_name_Twice (v : Value) (l : List Tx) (w : World) (hs : Sl w v 1 l.length (txL l)) : Calls Tryz.prog 56 #[v] w (Pure (I (twice l)) w) := by
 have hm := hs.small
 unfold maxLen at hm
 refine enter Tryz.func56 rfl Tryz.ntmps56 rfl <| have hH := Hp.start w; SR <| ?_
 refine RL.new rfl hH (f := fun b => (.pointer (some ⟨b, 0, none⟩))) (run_box (by conv => lhs; whnf)) ?_
 intro b3 w1 hH2
 rw [(one_sl hs).2] at hH2
 refine va (v := I 0) rfl <| RL.nil <| SR <| V (run_ld underlying57 rfl rfl (hH2.cell (i := 0) rfl rfl)) <| V (run_lenSl (hs.hp hH2) rfl underlying57 rfl) <| ?_
 refine V (run_mkF1 (by conv => lhs; whnf)) ?_
 refine RL.callP rfl hH2 (c_name_place _ 82 [.pointer (some ⟨b3, 0, none⟩)] (fun i => decide (nfind l (l.getD i.toNat tx0) < i)) (by omega) _ call82 (fun i w h h0 h1 => c_name_Twice_1 b3 v l i ⟨h0, h1⟩ w ((hs.hp hH2).below h) (keep h (hH2.blk (i := 0) rfl)))) (run_call3 call81 (show _ = I 0 from rfl) rfl rfl) <| fun w4 hH5 => aI rfl <| RL.nil <| CW.ret <| outP1 Tryz.results56 (congrArg I ?_) hH5.below
 rfl
theorem c_clearanceref02_Find (v : Value) (l : List Tx) (s : Tx) (w : World) (hs : Sl w v 1 l.length (txL l)) : Calls Tryz.prog 66 #[v, S s] w (Pure (I (nfind l s)) w) := by
 have hm := hs.small
 unfold maxLen at hm
 refine enter Tryz.func66 rfl Tryz.ntmps66 rfl <| have hH := Hp.start w; SR <| va (v := I 0) rfl <| RL.nil <| CW.seq <| SR <| va (v := I 0) rfl <| RL.nil <| CW.block <| CW.loop (G := Int) (fun k s' w' => (Fr (rg 4 15 []) _ s') ∧ (Hp w w' _) ∧ (s' 5 = I k) ∧ (0 ≤ k) ∧ (k ≤ l.length) ∧ (∀ j : Int, 0 ≤ j → j < k → decide (l.getD j.toNat tx0 = s) = false)) (fun k => (l.length - k).toNat) (0) ⟨Fr.refl _ _, hH, rfl, (by omega), (by omega), fun j a b => absurd b (by omega)⟩ <| ?_
 rintro k sg1 w1 ⟨fr1, hH1, e5_1, h0, hk, hg⟩
 have e0_1 := (fr1 0 rfl).trans (by conv => lhs; whnf)
 have e1_1 := fr1.ss 1 rfl rfl
 refine CW.seq <| SR <| vm e5_1 <| vm e0_1 <| V (run_lenSl (hs.hp hH1) rfl underlying57 rfl) <| V (run_lss rfl rfl) <| RL.nil <| CW.condP rfl (fun h3 => ?_) (fun h3 => ?_)
 ·refine CW.skip <| CW.seq <| CW.block <| SR <| vm e0_1 <| vm e5_1 <| V (run_indexAddrS (hs.hp hH1) underlying57 sizeOf9 rfl rfl (by omega)) <| V (run_ld underlying9 rfl rfl ((hs.hp hH1).cell _ _ (txL_at (by omega)))) <| vm e1_1 <| V (run_eqlS rfl rfl) <| RL.nil <| CW.condP rfl (fun h5 => ?_) (fun h5 => ?_)
  ·refine SR <| vm e5_1 <| aI rfl <| RL.nil <| CW.ret <| outP1 Tryz.results66 (congrArg I ?_) hH1.below
   exact (find_yes h0 ‹_› (decide_eq_true ‹_›) hg).symm
  ·refine CW.skip <| CW.region <| vm e5_1 <| V (run_add rfl rfl (by omega)) <| aI rfl <| RL.nil <| ?_
   refine ⟨k + 1, ?_, fr1.u4.u4.u4.u1, hH1, (congrArg I (by rfl)), ?_, ?_, ?_⟩
   ·((try dsimp only); omega)
   ·omega
   ·omega
   ·exact fun j a b => if e : j = k then e ▸ decide_eq_false ‹_› else hg j a (by omega)
 ·refine CW.exit (id := 0) rfl <| SR <| va (v := I (-1)) rfl <| RL.nil <| CW.ret <| outP1 Tryz.results66 (congrArg I ?_) hH1.below
  exact (find_no fun j a b => hg j a (by omega)).symm
theorem c_clearanceref02_Twice (v : Value) (l : List Tx) (w : World) (hs : Sl w v 1 l.length (txL l)) : Calls Tryz.prog 37 #[v] w (Pure (I (twice l)) w) := by
 have hm := hs.small
 unfold maxLen at hm
 refine enter Tryz.func37 rfl Tryz.ntmps37 rfl <| have hH := Hp.start w; SR <| va (v := I 0) rfl <| RL.nil <| CW.seq <| SR <| va (v := I 0) rfl <| RL.nil <| CW.block <| CW.loop (G := Int) (fun k s' w' => (Fr (rg 2 17 []) _ s') ∧ (Hp w w' _) ∧ (s' 3 = I k) ∧ (0 ≤ k) ∧ (k ≤ l.length) ∧ (∀ j : Int, 0 ≤ j → j < k → decide (nfind l (l.getD j.toNat tx0) < j) = false)) (fun k => (l.length - k).toNat) (0) ⟨Fr.refl _ _, hH, rfl, (by omega), (by omega), fun j a b => absurd b (by omega)⟩ <| ?_
 rintro k sg1 w1 ⟨fr1, hH1, e3_1, h0, hk, hg⟩
 have e0_1 := (fr1 0 rfl).trans (by conv => lhs; whnf)
 refine CW.seq <| SR <| vm e3_1 <| vm e0_1 <| V (run_lenSl (hs.hp hH1) rfl underlying57 rfl) <| V (run_lss rfl rfl) <| RL.nil <| CW.condP rfl (fun h3 => ?_) (fun h3 => ?_)
 ·refine CW.skip <| CW.seq <| CW.block <| SR <| vm e0_1 <| vm e0_1 <| vm e3_1 <| V (run_indexAddrS (hs.hp hH1) underlying57 sizeOf9 rfl rfl (by omega)) <| V (run_ld underlying9 rfl rfl ((hs.hp hH1).cell _ _ (txL_at (by omega)))) <| RL.callP rfl hH1 (c_clearanceref02_Find _ _ _  _ (hs.hp hH1)) (run_call2 call66 rfl rfl) <| fun w4 hH5 => vm e3_1 <| V (run_lss rfl rfl) <| RL.nil <| CW.condP rfl (fun h7 => ?_) (fun h7 => ?_)
  ·refine SR <| vm e3_1 <| aI rfl <| RL.nil <| CW.ret <| outP1 Tryz.results37 (congrArg I ?_) hH5.below
   exact (find_yes h0 ‹_› (decide_eq_true ‹_›) hg).symm
  ·refine CW.skip <| CW.region <| vm e3_1 <| V (run_add rfl rfl (by omega)) <| aI rfl <| RL.nil <| ?_
   refine ⟨k + 1, ?_, fr1.u4.u4.u4.u1.u1.u1, hH5, (congrArg I (by rfl)), ?_, ?_, ?_⟩
   ·((try dsimp only); omega)
   ·omega
   ·omega
   ·exact fun j a b => if e : j = k then e ▸ decide_eq_false ‹_› else hg j a (by omega)
 ·refine CW.exit (id := 0) rfl <| SR <| va (v := I (-1)) rfl <| RL.nil <| CW.ret <| outP1 Tryz.results37 (congrArg I ?_) hH1.below
  exact (find_no fun j a b => hg j a (by omega)).symm
theorem c_shape_named (v : Value) (l : List Tx) (w : World) (hs : Sl w v 1 l.length (txL l)) : Calls Tryz.prog 100 #[v] w (Pure (B (namedF l)) w) := by
 have hm := hs.small
 unfold maxLen at hm
 refine enter Tryz.func100 rfl Tryz.ntmps100 rfl <| have hH := Hp.start w; SR <| va (v := B false) rfl <| RL.nil <| CW.seq <| SR <| ?_
 refine V (run_move (by conv => lhs; whnf)) ?_
 refine V (run_lenSl (hs.hp hH) rfl underlying57 rfl) <| V (run_lss rfl rfl) <| mB rfl <| RL.splitP (dj := 8) rfl (fun h2 => ?_) (fun h2 => ?_)
 ·refine gF rfl (bT h2) <| gF rfl (bT h2) <| gF rfl (bT h2) <| V (run_pickT (bT h2) (v := B true) rfl) <| mB rfl <| gF rfl rfl <| gF rfl rfl <| gF rfl rfl <| V (run_pickT rfl (v := B true) rfl) <| RL.nil <| CW.condT rfl <| SR <| va (v := B false) rfl <| RL.nil <| CW.ret <| outP1 Tryz.results100 (congrArg B ?_) hH.below
  exact (named_no1 (by omega)).symm
 ·refine gT rfl (bF h2) ?_
  refine V (run_move (by conv => lhs; whnf)) ?_
  refine gT rfl (bF h2) <| V (run_lenSl (hs.hp hH) rfl underlying57 rfl) <| gT rfl (bF h2) <| V (run_gtr rfl rfl) <| V (run_pickF (bF h2) (v := B _) rfl) <| mB rfl <| RL.splitP (dj := 13) rfl (fun h4 => ?_) (fun h4 => ?_)
  ·refine gF rfl (bT h4) <| gF rfl (bT h4) <| gF rfl (bT h4) <| V (run_pickT (bT h4) (v := B true) rfl) <| RL.nil <| CW.condT rfl <| SR <| va (v := B false) rfl <| RL.nil <| CW.ret <| outP1 Tryz.results100 (congrArg B ?_) hH.below
   exact (named_no1 (by omega)).symm
  ·refine gT rfl (bF h4) ?_
   refine V (run_move (by conv => lhs; whnf)) ?_
   refine gT rfl (bF h4) <| RL.callP rfl hH (c_name_Twice _ _  _ (hs.hp hH)) (run_call1 call56 rfl) <| fun w5 hH6 => gT rfl (bF h4) <| V (run_geq rfl rfl) <| V (run_pickF (bF h4) (v := B _) rfl) <| RL.nil <| CW.condP rfl (fun h8 => ?_) (fun h8 => ?_)
   ·refine SR <| va (v := B false) rfl <| RL.nil <| CW.ret <| outP1 Tryz.results100 (congrArg B ?_) hH6.below
    exact (named_no2 (by omega)).symm
   ·refine CW.skip <| CW.seq <| SR <| ?_
    refine V (run_move (by conv => lhs; whnf)) ?_
    refine V (run_lenSl (hs.hp hH6) rfl underlying57 rfl) <| vm (v := I 0) rfl <| RL.nil <| CW.block <| have hn1 : 1 ≤ l.length ∧ l.length ≤ 64 := (by omega); have hn2 : twice l < 0 := (by omega); CW.loop (G := Int) (fun k s' w' => (Fr (2 :: (4 :: (rg 20 8 []))) _ s') ∧ (Hp w w' _) ∧ (s' 20 = I k) ∧ (0 ≤ k) ∧ (k ≤ l.length) ∧ (∀ j : Int, 0 ≤ j → j < k → nameR (l.getD j.toNat tx0) = true)) (fun k => (l.length - k).toNat) (0) ⟨Fr.refl _ _, hH6, rfl, (by omega), (by omega), fun j a b => absurd b (by omega)⟩ <| ?_
    rintro k sg9 w9 ⟨fr9, hH9, e20_9, h0, hk, hg⟩
    have e18_9 := (fr9 18 rfl).trans (by conv => lhs; whnf)
    have e19_9 := fr9.ii 19 rfl rfl
    refine SR <| V (run_lss e20_9 e19_9) <| RL.nil <| CW.seq <| CW.condP rfl (fun h11 => ?_) (fun h11 => ?_)
    ·refine CW.skip <| CW.seq <| CW.block <| SR <| V (run_indexAddrS (hs.hp hH9) underlying57 sizeOf9 e18_9 e20_9 (by omega)) <| V (run_ld underlying9 rfl rfl ((hs.hp hH9).cell _ _ (txL_at (by omega)))) <| va (v := .string _) rfl <| RL.nil <| SR <| vm (v := .string _) rfl <| RL.callP rfl hH9 (c_name_Right _  _) (run_call1 call54 rfl) <| fun w12 hH13 => V (run_not rfl) <| RL.nil <| CW.cond rfl (fun h16 => ?_) (fun h16 => ?_)
     ·refine SR <| va (v := B false) rfl <| RL.nil <| CW.ret <| outP1 Tryz.results100 (congrArg B ?_) hH13.below
      exact (named_no3 h0 ‹_› (nt ‹_›)).symm
     ·refine CW.skip <| CW.region <| V (run_add e20_9 rfl (by omega)) <| mI rfl <| RL.nil <| ?_
      refine ⟨k + 1, ?_, fr9.u4.u4.u1, hH13, (congrArg I (by rfl)), ?_, ?_, ?_⟩
      ·((try dsimp only); omega)
      ·omega
      ·omega
      ·exact fun j a b => if e : j = k then e ▸ nf ‹_› else hg j a (by omega)
    ·refine CW.exit (id := 0) rfl <| SR <| va (v := B true) rfl <| RL.nil <| CW.ret <| outP1 Tryz.results100 (congrArg B ?_) hH9.below
     exact (named_yes hn1 hn2 ‹_› hg).symm
theorem c_shape_factor (f : Fac) (w : World) (hf : FacV (Kw w) f) (hT : Tab w) : Calls Tryz.prog 80 #[.agg (facC f)] w (Pure (B (factorR f.fc)) w) := by
 have hm := hf.names.sl.small
 unfold maxLen at hm
 refine enter Tryz.func80 rfl Tryz.ntmps80 rfl <| have hH := Hp.start w; SR <| RL.new rfl hH (f := fun b => (.pointer (some ⟨b, 0, none⟩))) (run_box (v := .agg _) rfl) <| fun b3 w1 hH2 => va (v := B false) rfl <| RL.nil <| CW.seq <| SR <| V (fA underlying62 1 rfl sizeOf57 rfl) <| V (run_ld underlying57 rfl rfl (hH2.cell (i := 0) rfl rfl)) <| RL.callP rfl hH2 (c_shape_named _ _  _ (hf.names.sl.hp hH2)) (run_call1 call100 rfl) <| fun w4 hH5 => V (run_not rfl) <| RL.nil <| CW.cond rfl (fun h8 => ?_) (fun h8 => ?_)
 ·refine SR <| va (v := B false) rfl <| RL.nil <| CW.ret <| outP1 Tryz.results80 (congrArg B ?_) hH5.below
  exact (fac_no (f := f.fc) (nt ‹_›)).symm
 ·refine CW.skip <| CW.seq <| SR <| V (fA underlying62 0 rfl sizeOf3 rfl) <| V (run_ld underlying3 rfl rfl (hH5.cell (i := 0) rfl (v := I _) rfl)) <| RL.nil <| CW.block <| CW.seq <| SR <| V (run_eql rfl rfl) <| aB rfl <| RL.nil <| CW.condP rfl (fun h10 => ?_) (fun h10 => ?_)
  ·refine CW.skip <| CW.condT (bT h10) <| SR <| V (fA underlying62 2 rfl sizeOf60 rfl) <| V (run_ldBR underlying60 rfl rfl rfl (hH5.blk (i := 0) rfl)) <| V (run_bld (vs := []) rfl built_rel0) <| RL.callP rfl hH5 (c_relate_Same _ _  _) (run_call2 call101 rfl rfl) <| fun w11 hH12 => aB rfl <| RL.nil <| CW.ret <| outP1 Tryz.results80 (congrArg B ?_) hH12.below
   exact (fac_12s (f := f.fc) (nf ‹(!namedF f.names) = false›) (.inl ‹_›)).symm
  ·refine CW.region <| V (run_eql rfl rfl) <| aB rfl <| RL.nil <| CW.condP rfl (fun h16 => ?_) (fun h16 => ?_)
   ·refine SR <| V (fA underlying62 2 rfl sizeOf60 rfl) <| V (run_ldBR underlying60 rfl rfl rfl (hH5.blk (i := 0) rfl)) <| V (run_bld (vs := []) rfl built_rel0) <| RL.callP rfl hH5 (c_relate_Same _ _  _) (run_call2 call101 rfl rfl) <| fun w17 hH18 => aB rfl <| RL.nil <| CW.ret <| outP1 Tryz.results80 (congrArg B ?_) hH18.below
    exact (fac_12s (f := f.fc) (nf ‹(!namedF f.names) = false›) (.inr ‹_›)).symm
   ·refine SR <| V (run_eql rfl rfl) <| aB rfl <| RL.nil <| CW.condP rfl (fun h22 => ?_) (fun h22 => ?_)
    ·refine SR <| V (fA underlying62 2 rfl sizeOf60 rfl) <| V (fA underlying60 0 rfl sizeOf3 rfl) <| V (run_ld underlying3 rfl rfl (hH5.cell (i := 0) rfl (v := I _) rfl)) <| V (fA underlying62 1 rfl sizeOf57 rfl) <| V (run_ld underlying57 rfl rfl (hH5.cell (i := 0) rfl rfl)) <| V (run_lenSl (hf.names.sl.hp hH5) rfl underlying57 rfl) <| V (run_eql rfl rfl) <| mB rfl <| RL.splitP (dj := 25) rfl (fun h24 => ?_) (fun h24 => ?_)
     ·refine gT rfl (bT h24) <| V (fA underlying62 2 rfl sizeOf60 rfl) <| gT rfl (bT h24) <| V (run_ldBR underlying60 rfl rfl rfl (hH5.blk (i := 0) rfl)) <| gT rfl (bT h24) <| RL.callP rfl hH5 (c_grid_Right _  _) (run_call1 call102 rfl) <| fun w25 hH26 => V (run_pickT (bT h24) (v := B _) rfl) <| aB rfl <| RL.nil <| CW.ret <| outP1 Tryz.results80 (congrArg B ?_) hH26.below
      exact (fac_3y (f := f.fc) (nf ‹(!namedF f.names) = false›) ‹_› ‹_›).symm
     ·refine gF rfl (bF h24) <| gF rfl (bF h24) <| gF rfl (bF h24) <| V (run_pickF (bF h24) (v := B false) rfl) <| aB rfl <| RL.nil <| CW.ret <| outP1 Tryz.results80 (congrArg B ?_) hH5.below
      exact (fac_3n (f := f.fc) ‹_› ‹_›).symm
    ·refine SR <| V (run_eql rfl rfl) <| aB rfl <| RL.nil <| CW.condP rfl (fun h29 => ?_) (fun h29 => ?_)
     ·refine SR <| V (fA underlying62 2 rfl sizeOf60 rfl) <| V (fA underlying60 0 rfl sizeOf3 rfl) <| V (run_ld underlying3 rfl rfl (hH5.cell (i := 0) rfl (v := I _) rfl)) <| V (fA underlying62 1 rfl sizeOf57 rfl) <| V (run_ld underlying57 rfl rfl (hH5.cell (i := 0) rfl rfl)) <| V (run_lenSl (hf.names.sl.hp hH5) rfl underlying57 rfl) <| V (run_eql rfl rfl) <| mB rfl <| RL.splitP (dj := 39) rfl (fun h31 => ?_) (fun h31 => ?_)
      ·refine gT rfl (bT h31) <| V (fA underlying62 2 rfl sizeOf60 rfl) <| gT rfl (bT h31) <| V (run_ldBR underlying60 rfl rfl rfl (hH5.blk (i := 0) rfl)) <| gT rfl (bT h31) <| RL.callP rfl hH5 (c_hasse_Lattice _  _ (hT.hp hH5)) (run_call1 call103 rfl) <| fun w32 hH33 => V (run_pickT (bT h31) (v := B _) rfl) <| aB rfl <| RL.nil <| CW.ret <| outP1 Tryz.results80 (congrArg B ?_) hH33.below
       exact (fac_4y (f := f.fc) (nf ‹(!namedF f.names) = false›) ‹_› ‹_›).symm
      ·refine gF rfl (bF h31) <| gF rfl (bF h31) <| gF rfl (bF h31) <| V (run_pickF (bF h31) (v := B false) rfl) <| aB rfl <| RL.nil <| CW.ret <| outP1 Tryz.results80 (congrArg B ?_) hH5.below
       exact (fac_4n (f := f.fc) ‹_› ‹_›).symm
     ·refine CW.skip <| SR <| va (v := B false) rfl <| RL.nil <| CW.ret <| outP1 Tryz.results80 (congrArg B ?_) hH5.below
      exact (fac_x (f := f.fc) ‹_› ‹_› ‹_› ‹_›).symm
theorem c_shape_Right (s : Shp) (w : World) (hs : ShpV (Kw w) s) (hT : Tab w) : Calls Tryz.prog 55 #[.agg (shpC s)] w (Pure (B (shR s.sh)) w) := by
 have hsl := sh_len s
 have hm := hs.facs.sl.small
 unfold maxLen at hm
 refine enter Tryz.func55 rfl Tryz.ntmps55 rfl <| have hH := Hp.start w; SR <| RL.new rfl hH (f := fun b => (.pointer (some ⟨b, 0, none⟩))) (run_box (v := .agg _) rfl) <| fun b3 w1 hH2 => va (v := B false) rfl <| RL.nil <| SR <| V (fA underlying65 1 rfl sizeOf63 rfl) <| V (run_ld underlying63 rfl rfl (hH2.cell (i := 0) rfl rfl)) <| V (run_lenSl (hs.facs.sl.hp hH2) rfl underlying63 rfl) <| aI rfl <| RL.nil <| CW.seq <| SR <| mI rfl <| V (run_lss rfl rfl) <| mB rfl <| RL.splitP (dj := 11) rfl (fun h5 => ?_) (fun h5 => ?_)
 ·refine gF rfl (bT h5) <| gF rfl (bT h5) <| V (run_pickT (bT h5) (v := B true) rfl) <| mB rfl <| gF rfl rfl <| gF rfl rfl <| gF rfl rfl <| gF rfl rfl <| RL.gU rfl rfl rfl <| RL.gU rfl rfl rfl <| gF rfl rfl <| V (run_pickT rfl (v := B true) rfl) <| RL.nil <| CW.condT rfl <| SR <| va (v := B false) rfl <| RL.nil <| CW.ret <| outP1 Tryz.results55 (congrArg B ?_) hH2.below
  exact (shR_no1 (by omega)).symm
 ·refine gT rfl (bF h5) <| mI rfl <| gT rfl (bF h5) <| V (run_gtr rfl rfl) <| V (run_pickF (bF h5) (v := B _) rfl) <| mB rfl <| RL.splitP (dj := 15) rfl (fun h7 => ?_) (fun h7 => ?_)
  ·refine gF rfl (bT h7) <| gF rfl (bT h7) <| gF rfl (bT h7) <| gF rfl (bT h7) <| RL.gU rfl rfl rfl <| RL.gU rfl rfl rfl <| gF rfl (bT h7) <| V (run_pickT (bT h7) (v := B true) rfl) <| RL.nil <| CW.condT rfl <| SR <| va (v := B false) rfl <| RL.nil <| CW.ret <| outP1 Tryz.results55 (congrArg B ?_) hH2.below
   exact (shR_no1 (by omega)).symm
  ·refine gT rfl (bF h7) <| V (fA underlying65 0 rfl sizeOf4 rfl) <| gT rfl (bF h7) <| V (run_ld underlying4 rfl rfl (hH2.cell (i := 0) rfl (v := B _) rfl)) <| gT rfl (bF h7) <| V (run_not rfl) <| gT rfl (bF h7) <| mB rfl <| RL.split (dj := 19) rfl (fun h10 => ?_) (fun h10 => ?_)
   ·refine gT rfl (bR (c := true) h10) <| mI rfl <| gT rfl (bR (c := true) h10) <| V (run_neq rfl rfl) <| gT rfl (bF h7) <| V (run_pickT (bR (c := true) h10) (v := B _) rfl) <| V (run_pickF (bF h7) (v := B _) rfl) <| RL.nil <| CW.condP rfl (fun h12 => ?_) (fun h12 => ?_)
    ·refine SR <| va (v := B false) rfl <| RL.nil <| CW.ret <| outP1 Tryz.results55 (congrArg B ?_) hH2.below
     exact (shR_no2 (by exact nt ‹_›) (by omega)).symm
    ·refine CW.skip <| CW.seq <| SR <| V (fA underlying65 1 rfl sizeOf63 rfl) <| V (run_ld underlying63 rfl rfl (hH2.cell (i := 0) rfl rfl)) <| V (run_lenSl (hs.facs.sl.hp hH2) rfl underlying63 rfl) <| vm (v := I 0) rfl <| RL.nil <| CW.block <| have hc2 : s.sh.tuple = true ∨ s.sh.facs.length = 1 := (by exact .inr (by omega)); have hc1 : 1 ≤ s.facs.length ∧ s.facs.length ≤ 8 := (by omega); CW.loop (G := Int) (fun k s' w' => (Fr (2 :: (5 :: (rg 27 8 []))) _ s') ∧ (Hp w w' _) ∧ (s' 27 = I k) ∧ (0 ≤ k) ∧ (k ≤ s.facs.length) ∧ (∀ j : Int, 0 ≤ j → j < k → factorR (s.facs.getD j.toNat fac0).fc = true)) (fun k => (s.facs.length - k).toNat) (0) ⟨Fr.refl _ _, hH2, rfl, (by omega), (by omega), fun j a b => absurd b (by omega)⟩ <| ?_
     rintro k sg13 w13 ⟨fr13, hH13, e27_13, h0, hk, hg⟩
     have e25_13 := (fr13 25 rfl).trans (by conv => lhs; whnf)
     have e26_13 := fr13.ii 26 rfl rfl
     refine SR <| V (run_lss e27_13 e26_13) <| RL.nil <| CW.seq <| CW.condP rfl (fun h15 => ?_) (fun h15 => ?_)
     ·refine CW.skip <| CW.seq <| CW.block <| SR <| V (run_indexAddrS (hs.facs.sl.hp hH13) underlying63 sizeOf62 e25_13 e27_13 (by omega)) <| V (run_ldE (dv := fac0) facL_len (hs.facs.sl.hp hH13) underlying62 rfl rfl rfl (by omega)) <| RL.new rfl hH13 (f := fun b => (.pointer (some ⟨b, 0, none⟩))) (run_alloc zero_fac) <| fun b18 w16 hH17 => RL.set hH17 (i := 0) rfl (run_stFac (hs.at (by omega) (by omega)) rfl rfl rfl (hH17.blk (i := 0) rfl)) <| fun w19 hH20 => ?_
      simp only [z2] at hH20
      refine RL.nil <| SR <| V (run_ldFac underlying62 rfl rfl rfl (hH20.blk (i := 0) rfl)) <| RL.callP rfl hH20 (c_shape_factor _  _ ((hs.at (by omega) (by omega)).mono hH20.kw) (hT.hp hH20)) (run_call1 call80 rfl) <| fun w21 hH22 => V (run_not rfl) <| RL.nil <| CW.cond rfl (fun h25 => ?_) (fun h25 => ?_)
      ·refine SR <| va (v := B false) rfl <| RL.nil <| CW.ret <| outP1 Tryz.results55 (congrArg B ?_) hH22.below
       exact (shR_no3 (k := k) h0 (by omega) (by rw [sh_get]; exact nt ‹_›)).symm
      ·refine CW.skip <| CW.region <| V (run_add e27_13 rfl (by omega)) <| mI rfl <| RL.nil <| ?_
       refine ⟨k + 1, ?_, fr13.u4.u4.u1, (hH22.sub (sQ sR)), (congrArg I (by rfl)), ?_, ?_, ?_⟩
       ·((try dsimp only); omega)
       ·omega
       ·omega
       ·exact fun j a b => if e : j = k then e ▸ nf ‹_› else hg j a (by omega)
     ·refine CW.exit (id := 0) rfl <| SR <| va (v := B true) rfl <| RL.nil <| CW.ret <| outP1 Tryz.results55 (congrArg B ?_) hH13.below
      exact (shR_yes (k := k) (by omega) hc2 (by omega) fun j a b => by rw [sh_get]; exact hg j a b).symm
   ·refine gF rfl (bR (c := false) h10) <| gF rfl (bR (c := false) h10) <| gT rfl (bF h7) <| V (run_pickF (bR (c := false) h10) (v := B false) rfl) <| V (run_pickF (bF h7) (v := B _) rfl) <| RL.nil <| CW.condF rfl <| CW.skip <| CW.seq <| SR <| V (fA underlying65 1 rfl sizeOf63 rfl) <| V (run_ld underlying63 rfl rfl (hH2.cell (i := 0) rfl rfl)) <| V (run_lenSl (hs.facs.sl.hp hH2) rfl underlying63 rfl) <| vm (v := I 0) rfl <| RL.nil <| CW.block <| have hc2 : s.sh.tuple = true ∨ s.sh.facs.length = 1 := (by exact .inl (nf ‹(!s.tuple) = false›)); have hc1 : 1 ≤ s.facs.length ∧ s.facs.length ≤ 8 := (by omega); CW.loop (G := Int) (fun k s' w' => (Fr (2 :: (5 :: (rg 27 8 []))) _ s') ∧ (Hp w w' _) ∧ (s' 27 = I k) ∧ (0 ≤ k) ∧ (k ≤ s.facs.length) ∧ (∀ j : Int, 0 ≤ j → j < k → factorR (s.facs.getD j.toNat fac0).fc = true)) (fun k => (s.facs.length - k).toNat) (0) ⟨Fr.refl _ _, hH2, rfl, (by omega), (by omega), fun j a b => absurd b (by omega)⟩ <| ?_
    rintro k sg26 w26 ⟨fr26, hH26, e27_26, h0, hk, hg⟩
    have e25_26 := (fr26 25 rfl).trans (by conv => lhs; whnf)
    have e26_26 := fr26.ii 26 rfl rfl
    refine SR <| V (run_lss e27_26 e26_26) <| RL.nil <| CW.seq <| CW.condP rfl (fun h28 => ?_) (fun h28 => ?_)
    ·refine CW.skip <| CW.seq <| CW.block <| SR <| V (run_indexAddrS (hs.facs.sl.hp hH26) underlying63 sizeOf62 e25_26 e27_26 (by omega)) <| V (run_ldE (dv := fac0) facL_len (hs.facs.sl.hp hH26) underlying62 rfl rfl rfl (by omega)) <| RL.new rfl hH26 (f := fun b => (.pointer (some ⟨b, 0, none⟩))) (run_alloc zero_fac) <| fun b31 w29 hH30 => RL.set hH30 (i := 0) rfl (run_stFac (hs.at (by omega) (by omega)) rfl rfl rfl (hH30.blk (i := 0) rfl)) <| fun w32 hH33 => ?_
     simp only [z2] at hH33
     refine RL.nil <| SR <| V (run_ldFac underlying62 rfl rfl rfl (hH33.blk (i := 0) rfl)) <| RL.callP rfl hH33 (c_shape_factor _  _ ((hs.at (by omega) (by omega)).mono hH33.kw) (hT.hp hH33)) (run_call1 call80 rfl) <| fun w34 hH35 => V (run_not rfl) <| RL.nil <| CW.cond rfl (fun h38 => ?_) (fun h38 => ?_)
     ·refine SR <| va (v := B false) rfl <| RL.nil <| CW.ret <| outP1 Tryz.results55 (congrArg B ?_) hH35.below
      exact (shR_no3 (k := k) h0 (by omega) (by rw [sh_get]; exact nt ‹_›)).symm
     ·refine CW.skip <| CW.region <| V (run_add e27_26 rfl (by omega)) <| mI rfl <| RL.nil <| ?_
      refine ⟨k + 1, ?_, fr26.u4.u4.u1, (hH35.sub (sQ sR)), (congrArg I (by rfl)), ?_, ?_, ?_⟩
      ·((try dsimp only); omega)
      ·omega
      ·omega
      ·exact fun j a b => if e : j = k then e ▸ nf ‹_› else hg j a (by omega)
    ·refine CW.exit (id := 0) rfl <| SR <| va (v := B true) rfl <| RL.nil <| CW.ret <| outP1 Tryz.results55 (congrArg B ?_) hH26.below
     exact (shR_yes (k := k) (by omega) hc2 (by omega) fun j a b => by rw [sh_get]; exact hg j a b).symm
theorem c_shape_word (f : Fac) (s : BitVec 64) (w : World) (hf : FacV (Kw w) f) (hT : Tab w) : Calls Tryz.prog 67 #[.agg (facC f), U s] w (Pure (B (wordF f.fc s)) w) := by
 have hm := hf.names.sl.small
 unfold maxLen at hm
 refine enter Tryz.func67 rfl Tryz.ntmps67 rfl <| have hH := Hp.start w; SR <| RL.new rfl hH (f := fun b => (.pointer (some ⟨b, 0, none⟩))) (run_box (v := .agg _) rfl) <| fun b3 w1 hH2 => va (v := B false) rfl <| RL.nil <| CW.seq <| SR <| V (fA underlying62 0 rfl sizeOf3 rfl) <| V (run_ld underlying3 rfl rfl (hH2.cell (i := 0) rfl (v := I _) rfl)) <| RL.nil <| CW.block <| SR <| V (run_eql rfl rfl) <| aB rfl <| RL.nil <| CW.condP rfl (fun h5 => ?_) (fun h5 => ?_)
 ·refine SR <| V (fA underlying62 1 rfl sizeOf57 rfl) <| V (run_ld underlying57 rfl rfl (hH2.cell (i := 0) rfl rfl)) <| V (run_lenSl (hf.names.sl.hp hH2) rfl underlying57 rfl) <| mU rfl <| RL.callP rfl hH2 (c_rung_Right _ _  _) (run_call2 call87 rfl rfl) <| fun w6 hH7 => aB rfl <| RL.nil <| CW.ret <| outP1 Tryz.results67 (congrArg B ?_) hH7.below
  exact (word1 (f := f.fc) ‹_› s).symm
 ·refine SR <| V (run_eql rfl rfl) <| aB rfl <| RL.nil <| CW.condP rfl (fun h10 => ?_) (fun h10 => ?_)
  ·refine SR <| mU rfl <| V (fA underlying62 1 rfl sizeOf57 rfl) <| V (run_ld underlying57 rfl rfl (hH2.cell (i := 0) rfl rfl)) <| V (run_lenSl (hf.names.sl.hp hH2) rfl underlying57 rfl) <| RL.callP rfl hH2 (c_mask_Below _  _) (run_call1 call88 rfl) <| fun w11 hH12 => RL.callP rfl hH12 (c_mask_Sub _ _  _) (run_call2 call46 rfl rfl) <| fun w13 hH14 => aB rfl <| RL.nil <| CW.ret <| outP1 Tryz.results67 (congrArg B ?_) hH14.below
   exact (word2 (f := f.fc) ‹_› s).symm
  ·refine SR <| V (run_eql rfl rfl) <| aB rfl <| RL.nil <| CW.condP rfl (fun h17 => ?_) (fun h17 => ?_)
   ·refine SR <| V (fA underlying62 2 rfl sizeOf60 rfl) <| V (run_ldBR underlying60 rfl rfl rfl (hH2.blk (i := 0) rfl)) <| mU rfl <| RL.callP rfl hH2 (c_grid_Closed _ _  _ (hT.hp hH2)) (run_call2 call89 rfl rfl) <| fun w18 hH19 => aB rfl <| RL.nil <| CW.ret <| outP1 Tryz.results67 (congrArg B ?_) hH19.below
    exact (word3 (f := f.fc) ‹_› s).symm
   ·refine CW.skip <| SR <| V (fA underlying62 2 rfl sizeOf60 rfl) <| V (run_ldBR underlying60 rfl rfl rfl (hH2.blk (i := 0) rfl)) <| mU rfl <| RL.callP rfl hH2 (c_hasse_Point _ _  _ (hT.hp hH2)) (run_call2 call90 rfl rfl) <| fun w21 hH22 => ?_
    refine V (run_move (by conv => lhs; whnf)) ?_
    refine V (run_extract rfl (v := I _) rfl) <| V (run_extract rfl (v := B _) rfl) <| aI rfl <| aB rfl <| RL.nil <| SR <| mB rfl <| aB rfl <| RL.nil <| CW.ret <| outP1 Tryz.results67 (congrArg B ?_) hH22.below
    exact (wordx (f := f.fc) ‹_› ‹_› ‹_› s).symm
theorem c_shape_Fits (s : Shp) (e : El) (w : World) (hs : ShpV (Kw w) s) (hT : Tab w) : Calls Tryz.prog 38 #[.agg (shpC s), .agg (elC e)] w (Pure (B (fitsS s.sh e)) w) := by
 have hsl := sh_len s
 have hm := hs.facs.sl.small
 unfold maxLen at hm
 refine enter Tryz.func38 rfl Tryz.ntmps38 rfl <| have hH := Hp.start w; SR <| RL.new rfl hH (f := fun b => (.pointer (some ⟨b, 0, none⟩))) (run_box (v := .agg _) rfl) <| fun b3 w1 hH2 => RL.new rfl hH2 (f := fun b => (.pointer (some ⟨b, 0, none⟩))) (run_box (v := .agg _) rfl) <| fun b6 w4 hH5 => va (v := B false) rfl <| RL.nil <| CW.seq <| SR <| V (run_ldA (cs := [B _, _]) underlying65 rfl rfl rfl (rangeAt_cells (hH5.blk (i := 1) rfl))) <| RL.callP rfl hH5 (c_shape_Right _  _ (hs.mono hH5.kw) (hT.hp hH5)) (run_call1 call55 rfl) <| fun w7 hH8 => V (run_not rfl) <| RL.nil <| CW.cond rfl (fun h11 => ?_) (fun h11 => ?_)
 ·refine SR <| va (v := B false) rfl <| RL.nil <| CW.ret <| outP1 Tryz.results38 (congrArg B ?_) hH8.below
  exact (fits_no1 (nt ‹_›)).symm
 ·refine CW.skip <| CW.seq <| SR <| V (run_ldEl underlying39 rfl rfl rfl (hH8.blk (i := 0) rfl)) <| vm (v := I 0) rfl <| RL.nil <| CW.block <| have hr : shR s.sh = true := nf ‹_›; CW.loop (G := Int) (fun k s' w' => (Fr (rg 4 3 (rg 11 20 [])) _ s') ∧ (Hp w w' _) ∧ (s' 11 = I k) ∧ (0 ≤ k) ∧ (k ≤ 8) ∧ (FitTo s.sh e k)) (fun k => (8 - k).toNat) (0) ⟨Fr.refl _ _, hH8, rfl, (by omega), (by omega), FitTo.none _ _⟩ <| ?_
  rintro k sg12 w12 ⟨fr12, hH12, e11_12, h0, hk, hf⟩
  have e2_12 := fr12.pp 2 rfl rfl
  have e10_12 := fr12.aa 10 rfl rfl
  refine SR <| V (run_lss e11_12 rfl) <| RL.nil <| CW.seq <| CW.condP rfl (fun h14 => ?_) (fun h14 => ?_)
  ·refine CW.skip <| CW.seq <| CW.block <| SR <| vm e11_12 <| V (run_indexA underlying39 isAgg37 sizeOf37 e10_12 e11_12 (by omega) (elC_ix _ (by omega))) <| aI rfl <| aU rfl <| RL.nil <| CW.seq <| SR <| mI rfl <| V (fA underlying65 1 rfl sizeOf63 e2_12) <| V (run_ld underlying63 rfl rfl (hH12.cell (i := 1) rfl rfl)) <| V (run_lenSl (hs.facs.sl.hp hH12) rfl underlying63 rfl) <| V (run_geq rfl rfl) <| RL.nil <| CW.condP rfl (fun h16 => ?_) (fun h16 => ?_)
   ·refine CW.seq <| SR <| mU rfl <| V (run_neqU rfl (b := 0#64) rfl) <| RL.nil <| CW.condP rfl (fun h18 => ?_) (fun h18 => ?_)
    ·refine SR <| va (v := B false) rfl <| RL.nil <| CW.ret <| outP1 Tryz.results38 (congrArg B ?_) hH12.below
     exact (fits_no3 h0 ‹_› (by omega) ‹_›).symm
    ·refine CW.skip <| CW.exit (id := 1) rfl <| CW.region <| V (run_add e11_12 rfl (by omega)) <| mI rfl <| RL.nil <| ?_
     refine ⟨k + 1, ?_, fr12.u4.u4.u4.u1.u1, hH12, (congrArg I (by rfl)), ?_, ?_, ?_⟩
     ·((try dsimp only); omega)
     ·omega
     ·omega
     ·exact hf.next (fun h => by exfalso; omega) (fun h => by exact Decidable.of_not_not ‹_›)
   ·refine CW.skip <| SR <| V (fA underlying65 1 rfl sizeOf63 e2_12) <| V (run_ld underlying63 rfl rfl (hH12.cell (i := 1) rfl rfl)) <| mI rfl <| V (run_indexAddrS (hs.facs.sl.hp hH12) underlying63 sizeOf62 rfl rfl (by omega)) <| V (run_ldE (dv := fac0) facL_len (hs.facs.sl.hp hH12) underlying62 rfl rfl rfl (by omega)) <| mU rfl <| RL.callP rfl hH12 (c_shape_word _ _  _ ((hs.at (by omega) (by omega)).mono hH12.kw) (hT.hp hH12)) (run_call2 call67 rfl rfl) <| fun w19 hH20 => V (run_not rfl) <| RL.nil <| CW.cond rfl (fun h23 => ?_) (fun h23 => ?_)
    ·refine SR <| va (v := B false) rfl <| RL.nil <| CW.ret <| outP1 Tryz.results38 (congrArg B ?_) hH20.below
     exact (fits_no2 h0 ‹_› (by omega) (by rw [sh_get]; exact nt ‹_›)).symm
    ·refine CW.skip <| CW.region <| V (run_add e11_12 rfl (by omega)) <| mI rfl <| RL.nil <| ?_
     refine ⟨k + 1, ?_, fr12.u4.u4.u4.u4.u4, hH20, (congrArg I (by rfl)), ?_, ?_, ?_⟩
     ·((try dsimp only); omega)
     ·omega
     ·omega
     ·exact hf.next (fun h => by rw [sh_get]; exact nf ‹_›) (fun h => by exfalso; omega)
  ·refine CW.exit (id := 0) rfl <| SR <| va (v := B true) rfl <| RL.nil <| CW.ret <| outP1 Tryz.results38 (congrArg B ?_) hH12.below
   exact (fits_yes hr ‹_› hf).symm
theorem c_shape_Leq (a b : El) (w : World) : Calls Tryz.prog 24 #[.agg (elC a), .agg (elC b)] w (Pure (B (leqE a b)) w) := by
 refine enter Tryz.func24 rfl Tryz.ntmps24 rfl <| have hH := Hp.start w; SR <| RL.new rfl hH (f := fun b => (.pointer (some ⟨b, 0, none⟩))) (run_box (v := .agg _) rfl) <| fun b3 w1 hH2 => RL.new rfl hH2 (f := fun b => (.pointer (some ⟨b, 0, none⟩))) (run_box (v := .agg _) rfl) <| fun b6 w4 hH5 => va (v := B false) rfl <| RL.nil <| CW.seq <| SR <| vm (v := I 0) rfl <| RL.nil <| CW.block <| CW.loop (G := Int) (fun k s' w' => (Fr (rg 4 14 []) _ s') ∧ (Hp w w' _) ∧ (s' 6 = I k) ∧ (0 ≤ k) ∧ (k ≤ 8) ∧ (∀ j : Int, 0 ≤ j → j < k → subB (a j.toNat) (b j.toNat) = true)) (fun k => (8 - k).toNat) (0) ⟨Fr.refl _ _, hH5, rfl, (by omega), (by omega), fun j u v => absurd v (by omega)⟩ <| ?_
 rintro k sg7 w7 ⟨fr7, hH7, e6_7, h0, hk, hf⟩
 have e2_7 := fr7.pp 2 rfl rfl
 have e3_7 := fr7.pp 3 rfl rfl
 refine SR <| V (run_lss e6_7 rfl) <| RL.nil <| CW.seq <| CW.condP rfl (fun h9 => ?_) (fun h9 => ?_)
 ·refine CW.skip <| CW.seq <| CW.block <| SR <| vm e6_7 <| aI rfl <| RL.nil <| CW.seq <| CW.regionD (by kernel_rfl) hH7 <| fun w10 hH11 => have zh11 := hH11.sub sR; AQ 0 rfl zh11 (mV (I _) rfl) <| AQ 1 rfl zh11 (run_indexAddrA underlying39 sizeOf37 e2_7 rfl (by omega)) <| AT 2 rfl zh11 (fun w hS => run_ld underlying37 rfl rfl (hS.cell (i := 1) rfl (elC_at _ (by omega)))) <| AQ 3 rfl zh11 (mV (I _) rfl) <| AQ 4 rfl zh11 (run_indexAddrA underlying39 sizeOf37 e3_7 rfl (by omega)) <| AT 5 rfl zh11 (fun w hS => run_ld underlying37 rfl rfl (hS.cell (i := 0) rfl (elC_at _ (by omega)))) <| A1 6 <| AO.callP rfl gnone rfl hH11 sR (c_mask_Sub _ _  _) (run_call2 call46 rfl rfl) <| fun w12 hH13 => AQ 7 rfl (hH13.sub sR) (run_not rfl) <| AD <| CW.cond rfl (fun h16 => ?_) (fun h16 => ?_)
  ·refine SR <| va (v := B false) rfl <| RL.nil <| CW.ret <| outP1 Tryz.results24 (congrArg B ?_) hH13.below
   exact (leq_no h0 ‹_› (nt ‹_›)).symm
  ·refine CW.skip <| CW.region <| V (run_add e6_7 rfl (by omega)) <| mI rfl <| RL.nil <| ?_
   refine ⟨k + 1, ?_, fr7.u4.u4.u4.u1, hH13, (congrArg I (by rfl)), ?_, ?_, ?_⟩
   ·((try dsimp only); omega)
   ·omega
   ·omega
   ·exact fun j u v => if e : j = k then e ▸ nf ‹_› else hf j u (by omega)
 ·refine CW.exit (id := 0) rfl <| SR <| va (v := B true) rfl <| RL.nil <| CW.ret <| outP1 Tryz.results24 (congrArg B ?_) hH7.below
  exact (leq_yes ‹_› hf).symm
theorem c_shape_Join (s : Shp) (a b : El) (w : World) (hs : ShpV (Kw w) s) (hT : Tab w) : Calls Tryz.prog 71 #[.agg (shpC s), .agg (elC a), .agg (elC b)] w (Pure (.agg (elC (joinS s.sh a b))) w) := by
 have hsl := sh_len s
 have hm := hs.facs.sl.small
 unfold maxLen at hm
 refine enter Tryz.func71 rfl Tryz.ntmps71 rfl <| have hH := Hp.start w; SR <| RL.new rfl hH (f := fun b => (.pointer (some ⟨b, 0, none⟩))) (run_box (v := .agg _) rfl) <| fun b3 w1 hH2 => RL.new rfl hH2 (f := fun b => (.pointer (some ⟨b, 0, none⟩))) (run_box (v := .agg _) rfl) <| fun b6 w4 hH5 => RL.new rfl hH5 (f := fun b => (.pointer (some ⟨b, 0, none⟩))) (run_box (v := .agg _) rfl) <| fun b9 w7 hH8 => RL.new rfl hH8 (f := fun b => (.pointer (some ⟨b, 0, none⟩))) (run_alloc zero_el) <| fun b12 w10 hH11 => RL.nil <| CW.seq <| SR <| vm (v := I 0) rfl <| RL.nil <| CW.block <| CW.loop (G := Int × El) (fun ⟨k, e1⟩ s' w' => (Fr (rg 7 42 []) _ s') ∧ (Hp w w' (_ :: _ :: .blk b6 (.cells (elC e1) 39 (0, 0)) :: _)) ∧ (s' 8 = I k) ∧ (0 ≤ k) ∧ (k ≤ 8) ∧ (e1 = mixE (joinS s.sh a b) a k)) (fun ⟨k, e1⟩ => (8 - k).toNat) ((0, a)) ⟨Fr.refl _ _, hH11, rfl, (by omega), (by omega), (mix_zero _ _).symm⟩ <| ?_
 rintro ⟨k, e1⟩ sg13 w13 ⟨fr13, hH13, e8_13, h0, hk, hr⟩
 have e3_13 := fr13.pp 3 rfl rfl
 have e4_13 := fr13.pp 4 rfl rfl
 have e5_13 := fr13.pp 5 rfl rfl
 have e6_13 := fr13.pp 6 rfl rfl
 refine SR <| V (run_lss e8_13 rfl) <| RL.nil <| CW.seq <| CW.condP rfl (fun h15 => ?_) (fun h15 => ?_)
 ·refine CW.skip <| CW.seq <| CW.block <| SR <| vm e8_13 <| aI rfl <| RL.nil <| CW.seq <| SR <| mI rfl <| V (fA underlying65 1 rfl sizeOf63 e3_13) <| V (run_ld underlying63 rfl rfl (hH13.cell (i := 3) rfl rfl)) <| V (run_lenSl (hs.facs.sl.hp hH13) rfl underlying63 rfl) <| V (run_lss rfl rfl) <| mB rfl <| RL.splitP (dj := 16) rfl (fun h17 => ?_) (fun h17 => ?_)
  ·refine gT rfl (bT h17) <| V (fA underlying65 1 rfl sizeOf63 e3_13) <| gT rfl (bT h17) <| V (run_ld underlying63 rfl rfl (hH13.cell (i := 3) rfl rfl)) <| gT rfl (bT h17) <| mI rfl <| gT rfl (bT h17) <| V (run_indexAddrS (hs.facs.sl.hp hH13) underlying63 sizeOf62 rfl rfl (by omega)) <| gT rfl (bT h17) <| V (fA underlying62 0 rfl sizeOf3 rfl) <| gT rfl (bT h17) <| V (run_ldE1 (dv := fac0) facL_len (hs.facs.sl.hp hH13) underlying3 rfl rfl (by omega) rfl) <| gT rfl (bT h17) <| V (run_eql rfl rfl) <| V (run_pickT (bT h17) (v := B _) rfl) <| RL.nil <| CW.condP rfl (fun h19 => ?_) (fun h19 => ?_)
   ·refine CW.seq <| CW.regionS (by kernel_rfl) hH13 (sP (sP (sQ sR))) <| fun w20 hH21 => have zh21 := hH21.sub (sP (sP (sQ sR))); AQ 0 rfl zh21 (mV (I _) rfl) <| AQ 1 rfl zh21 (fA underlying65 1 rfl sizeOf63 e3_13) <| AT 2 rfl zh21 (fun w hS => run_ld underlying63 rfl rfl (hS.cell (i := 2) rfl rfl)) <| AQ 3 rfl zh21 (mV (I _) rfl) <| AT 4 rfl zh21 (fun w hS => run_indexAddrS (hs.facs.sl.hp hS) underlying63 sizeOf62 rfl rfl (by omega)) <| AQ 5 rfl zh21 (fA underlying62 2 rfl sizeOf60 rfl) <| AT 6 rfl zh21 (fun w hS => run_ldFR (hs.facs.sl.hp hS) underlying60 rfl rfl rfl (by omega)) <| AQ 7 rfl zh21 (mV (I _) rfl) <| AQ 8 rfl zh21 (run_indexAddrA underlying39 sizeOf37 e4_13 rfl (by omega)) <| AQ 10 rfl zh21 (mV (I _) rfl) <| AQ 11 rfl zh21 (run_indexAddrA underlying39 sizeOf37 e5_13 rfl (by omega)) <| AT 12 rfl zh21 (fun w hS => run_ld underlying37 rfl rfl (hS.cell (i := 1) rfl (elC_at _ (by omega)))) <| A1 9 <| AO.read rfl gnone rfl hH21 (sP (sP (sQ sR))) (run_ld underlying37 rfl rfl (hH21.cell (i := 2) rfl (elC_at _ (by omega)))) <| A1 13 <| AO.callP rfl gnone rfl hH21 (sP (sP (sQ sR))) (c_hasse_Raise _ _ _  _ (hT.hp hH21)) (run_call3 call93 rfl rfl rfl) <| fun w24 hH25 => AQ 14 rfl (hH25.sub (sP (sP (sQ sR)))) (run_indexAddrA underlying39 sizeOf37 e4_13 rfl (by omega)) <| A1 15 <| AO.set rfl gnone hH25 (j := 2) rfl (sP (sP (sQ sR))) (run_st rfl rfl (v := U _) rfl rfl rfl (hH25.blk (i := 2) rfl) (by rw [elC_size]; omega)) <| fun w28 hH29 => ?_
    simp only [z2] at hH29
    rw [elC_put] at hH29
    refine AD <| CW.exit (id := 1) rfl <| CW.region <| V (run_add e8_13 rfl (by omega)) <| mI rfl <| RL.nil <| ?_
    refine ⟨(k + 1, _), ?_, fr13.u4.u4.u4.u4.u4.u4.u4.u4.u1.u1, hH29, (congrArg I (by rfl)), ?_, ?_, ?_⟩
    ·((try dsimp only); omega)
    ·omega
    ·omega
    ·exact join_put4 hr h0 ‹_› ‹_›
   ·refine CW.skip <| CW.regionS (by kernel_rfl) hH13 (sP (sP (sQ sR))) <| fun w30 hH31 => have zh31 := hH31.sub (sP (sP (sQ sR))); AQ 0 rfl zh31 (mV (I _) rfl) <| AQ 1 rfl zh31 (run_indexAddrA underlying39 sizeOf37 e4_13 rfl (by omega)) <| AQ 3 rfl zh31 (mV (I _) rfl) <| AQ 4 rfl zh31 (run_indexAddrA underlying39 sizeOf37 e5_13 rfl (by omega)) <| AT 5 rfl zh31 (fun w hS => run_ld underlying37 rfl rfl (hS.cell (i := 1) rfl (elC_at _ (by omega)))) <| A1 2 <| AO.read rfl gnone rfl hH31 (sP (sP (sQ sR))) (run_ld underlying37 rfl rfl (hH31.cell (i := 2) rfl (elC_at _ (by omega)))) <| AQ 6 rfl zh31 (run_orU rfl rfl) <| AQ 7 rfl zh31 (run_indexAddrA underlying39 sizeOf37 e4_13 rfl (by omega)) <| A1 8 <| AO.set rfl gnone hH31 (j := 2) rfl (sP (sP (sQ sR))) (run_st rfl rfl (v := U _) rfl rfl rfl (hH31.blk (i := 2) rfl) (by rw [elC_size]; omega)) <| fun w36 hH37 => ?_
    simp only [z2] at hH37
    rw [elC_put] at hH37
    refine AD <| CW.region <| V (run_add e8_13 rfl (by omega)) <| mI rfl <| RL.nil <| ?_
    refine ⟨(k + 1, _), ?_, fr13.u4.u4.u4.u4.u4.u4.u1.u1.u1, hH37, (congrArg I (by rfl)), ?_, ?_, ?_⟩
    ·((try dsimp only); omega)
    ·omega
    ·omega
    ·exact join_putO hr h0 (fun hc => absurd hc.1 (by omega))
  ·refine gF rfl (bF h17) <| gF rfl (bF h17) <| gF rfl (bF h17) <| gF rfl (bF h17) <| gF rfl (bF h17) <| gF rfl (bF h17) <| gF rfl (bF h17) <| V (run_pickF (bF h17) (v := B false) rfl) <| RL.nil <| CW.condF rfl <| CW.skip <| CW.regionS (by kernel_rfl) hH13 (sP (sP (sQ sR))) <| fun w38 hH39 => have zh39 := hH39.sub (sP (sP (sQ sR))); AQ 0 rfl zh39 (mV (I _) rfl) <| AQ 1 rfl zh39 (run_indexAddrA underlying39 sizeOf37 e4_13 rfl (by omega)) <| AQ 3 rfl zh39 (mV (I _) rfl) <| AQ 4 rfl zh39 (run_indexAddrA underlying39 sizeOf37 e5_13 rfl (by omega)) <| AT 5 rfl zh39 (fun w hS => run_ld underlying37 rfl rfl (hS.cell (i := 1) rfl (elC_at _ (by omega)))) <| A1 2 <| AO.read rfl gnone rfl hH39 (sP (sP (sQ sR))) (run_ld underlying37 rfl rfl (hH39.cell (i := 2) rfl (elC_at _ (by omega)))) <| AQ 6 rfl zh39 (run_orU rfl rfl) <| AQ 7 rfl zh39 (run_indexAddrA underlying39 sizeOf37 e4_13 rfl (by omega)) <| A1 8 <| AO.set rfl gnone hH39 (j := 2) rfl (sP (sP (sQ sR))) (run_st rfl rfl (v := U _) rfl rfl rfl (hH39.blk (i := 2) rfl) (by rw [elC_size]; omega)) <| fun w44 hH45 => ?_
   simp only [z2] at hH45
   rw [elC_put] at hH45
   refine AD <| CW.region <| V (run_add e8_13 rfl (by omega)) <| mI rfl <| RL.nil <| ?_
   refine ⟨(k + 1, _), ?_, fr13.u4.u4.u4.u4.u4.u4.u1.u1.u1, hH45, (congrArg I (by rfl)), ?_, ?_, ?_⟩
   ·((try dsimp only); omega)
   ·omega
   ·omega
   ·exact join_putO hr h0 (fun hc => absurd hc.1 (by omega))
 ·refine CW.exit (id := 0) rfl <| SR <| V (run_ldEl underlying39 rfl rfl e4_13 (hH13.blk (i := 2) rfl)) <| RL.set hH13 (i := 0) rfl (run_stEl rfl e6_13 rfl (hH13.blk (i := 0) rfl)) <| fun w46 hH47 => ?_
  simp only [z2] at hH47
  refine RL.nil <| CW.ret <| outCg Tryz.results71 e6_13 hH47 (i := 0) rfl underlying39 rfl (by rw [elC_size]; rfl) ⟨?_, hH47.below⟩
  (exact congrArg Value.agg (elC_congr (by rw [hr]; exact mix_all ‹_›)))
theorem c_shape_Meet (a b : El) (w : World) : Calls Tryz.prog 72 #[.agg (elC a), .agg (elC b)] w (Pure (.agg (elC (meetE a b))) w) := by
 refine enter Tryz.func72 rfl Tryz.ntmps72 rfl <| have hH := Hp.start w; SR <| RL.new rfl hH (f := fun b => (.pointer (some ⟨b, 0, none⟩))) (run_box (v := .agg _) rfl) <| fun b3 w1 hH2 => RL.new rfl hH2 (f := fun b => (.pointer (some ⟨b, 0, none⟩))) (run_box (v := .agg _) rfl) <| fun b6 w4 hH5 => RL.new rfl hH5 (f := fun b => (.pointer (some ⟨b, 0, none⟩))) (run_alloc zero_el) <| fun b9 w7 hH8 => RL.nil <| CW.seq <| SR <| vm (v := I 0) rfl <| RL.nil <| CW.block <| CW.loop (G := Int × El) (fun ⟨k, e1⟩ s' w' => (Fr (rg 5 13 []) _ s') ∧ (Hp w w' (_ :: _ :: .blk b3 (.cells (elC e1) 39 (0, 0)) :: _)) ∧ (s' 6 = I k) ∧ (0 ≤ k) ∧ (k ≤ 8) ∧ (e1 = mixE (meetE a b) a k)) (fun ⟨k, e1⟩ => (8 - k).toNat) ((0, a)) ⟨Fr.refl _ _, hH8, rfl, (by omega), (by omega), (mix_zero _ _).symm⟩ <| ?_
 rintro ⟨k, e1⟩ sg10 w10 ⟨fr10, hH10, e6_10, h0, hk, hr⟩
 have e2_10 := fr10.pp 2 rfl rfl
 have e3_10 := fr10.pp 3 rfl rfl
 have e4_10 := fr10.pp 4 rfl rfl
 refine SR <| V (run_lss e6_10 rfl) <| RL.nil <| CW.seq <| CW.condP rfl (fun h12 => ?_) (fun h12 => ?_)
 ·refine CW.skip <| CW.seq <| CW.block <| SR <| vm e6_10 <| aI rfl <| RL.nil <| CW.regionS (by kernel_rfl) hH10 (sP (sP (sQ sR))) <| fun w13 hH14 => have zh14 := hH14.sub (sP (sP (sQ sR))); AQ 0 rfl zh14 (mV (I _) rfl) <| AQ 1 rfl zh14 (run_indexAddrA underlying39 sizeOf37 e2_10 rfl (by omega)) <| AQ 3 rfl zh14 (mV (I _) rfl) <| AQ 4 rfl zh14 (run_indexAddrA underlying39 sizeOf37 e3_10 rfl (by omega)) <| AT 5 rfl zh14 (fun w hS => run_ld underlying37 rfl rfl (hS.cell (i := 1) rfl (elC_at _ (by omega)))) <| A1 2 <| AO.read rfl gnone rfl hH14 (sP (sP (sQ sR))) (run_ld underlying37 rfl rfl (hH14.cell (i := 2) rfl (elC_at _ (by omega)))) <| AQ 6 rfl zh14 (run_andU rfl rfl) <| AQ 7 rfl zh14 (run_indexAddrA underlying39 sizeOf37 e2_10 rfl (by omega)) <| A1 8 <| AO.set rfl gnone hH14 (j := 2) rfl (sP (sP (sQ sR))) (run_st rfl rfl (v := U _) rfl rfl rfl (hH14.blk (i := 2) rfl) (by rw [elC_size]; omega)) <| fun w19 hH20 => ?_
  simp only [z2] at hH20
  rw [elC_put] at hH20
  refine AD <| CW.region <| V (run_add e6_10 rfl (by omega)) <| mI rfl <| RL.nil <| ?_
  refine ⟨(k + 1, _), ?_, fr10.u4.u4.u4.u1, hH20, (congrArg I (by rfl)), ?_, ?_, ?_⟩
  ·((try dsimp only); omega)
  ·omega
  ·omega
  ·exact meet_put hr h0
 ·refine CW.exit (id := 0) rfl <| SR <| V (run_ldEl underlying39 rfl rfl e2_10 (hH10.blk (i := 2) rfl)) <| RL.set hH10 (i := 0) rfl (run_stEl rfl e4_10 rfl (hH10.blk (i := 0) rfl)) <| fun w21 hH22 => ?_
  simp only [z2] at hH22
  refine RL.nil <| CW.ret <| outCg Tryz.results72 e4_10 hH22 (i := 0) rfl underlying39 rfl (by rw [elC_size]; rfl) ⟨?_, hH22.below⟩
  (exact congrArg Value.agg (elC_congr (by rw [hr]; exact mix_all ‹_›)))
end Go.Proofs.YtkdbiooamgnfmaaGreatDoor.W
