/-
  The walks of the functions that the laws of this seat reach, part 1: each returns what its plain counterpart tells, and turns nothing that was there.
-/
import Derived.Test.YtkdbiooamgnfmaaDoorProg
import Derived.Test.YtkdbiooamgnfmaaDoorEnv
import Derived.Test.YtkdbiooamgnfmaaDoorPlain
import Derived.Test.YtkdbiooamgnfmaaDoorBase
import Derived.Test.YtkdbiooamgnfmaaDoorOrd
import Derived.Test.YtkdbiooamgnfmaaDoorRel
import Derived.Test.YtkdbiooamgnfmaaDoorClo
import Derived.Test.YtkdbiooamgnfmaaDoorCov
import Derived.Test.YtkdbiooamgnfmaaDoorArr
import Derived.Test.YtkdbiooamgnfmaaDoorHas
import Derived.Test.YtkdbiooamgnfmaaDoorGrd
import Derived.Test.YtkdbiooamgnfmaaDoorStr
import Derived.Test.YtkdbiooamgnfmaaDoorVu
import Derived.Test.YtkdbiooamgnfmaaDoorShp
import Derived.Test.YtkdbiooamgnfmaaDoorShl
import Derived.Test.YtkdbiooamgnfmaaDoorShq
import Derived.Test.YtkdbiooamgnfmaaDoorCut
import Derived.Test.YtkdbiooamgnfmaaDoorRec
import Derived.Test.YtkdbiooamgnfmaaDoorScp
import Derived.Test.YtkdbiooamgnfmaaDoorNod
import Derived.Test.YtkdbiooamgnfmaaDoorSpn
import Derived.Test.YtkdbiooamgnfmaaDoorSpy
import Derived.Test.YtkdbiooamgnfmaaDoorMk
import Derived.Test.YtkdbiooamgnfmaaDoorAsn
import Derived.Test.YtkdbiooamgnfmaaDoorAsp
import Derived.Test.YtkdbiooamgnfmaaDoorAsr
import Derived.Test.YtkdbiooamgnfmaaDoorAst
import Derived.Test.YtkdbiooamgnfmaaDoorRgs
import Derived.Test.YtkdbiooamgnfmaaDoorIns
import Derived.Test.YtkdbiooamgnfmaaDoorCod
import Derived.Test.YtkdbiooamgnfmaaDoorFit
import Derived.Test.YtkdbiooamgnfmaaDoorRow
import Derived.Test.YtkdbiooamgnfmaaDoorHol
import Derived.Test.YtkdbiooamgnfmaaDoorGap
import Derived.Test.YtkdbiooamgnfmaaDoorMap
import Derived.Test.YtkdbiooamgnfmaaDoorExn
import Derived.Test.YtkdbiooamgnfmaaDoorMin
namespace Go.Proofs.YtkdbiooamgnfmaaDoor.W
open Go Go.RowKit Go.Proofs.YtkdbiooamgnfmaaDoor.E Go.Proofs.YtkdbiooamgnfmaaDoor.M
set_option linter.unusedVariables false
set_option linter.unusedSimpArgs false
set_option maxRecDepth 100000
open Tryd
theorem zero_rel : ∀ w, (zeroValue 65).run Tryd.prog w = .ok (.agg (relC Rl.none)) w := fun w => by
  rw [relC_def]; exact Tryd.zeroValue65 w
theorem built_rel (a : Int) : Tryd.prog.built 65 [(0, I a)] = some (relC ⟨a, fun _ => 0#64⟩) := by
  rw [relC_def]; rfl
theorem relT_fields : Tryd.prog.fieldsOf 65 = #[{ name := "N", type := 3, offset := 0, embedded := false, tag := "", pkgPath := "", byteOffset := 0 }, { name := "Up", type := 63, offset := 1, embedded := false, tag := "", pkgPath := "", byteOffset := 8 }] := by
  unfold Program.fieldsOf; rw [Tryd.underlying65]
theorem relT_fact : RelT Tryd.prog 65 { name := "N", type := 3, offset := 0, embedded := false, tag := "", pkgPath := "", byteOffset := 0 } { name := "Up", type := 63, offset := 1, embedded := false, tag := "", pkgPath := "", byteOffset := 8 } 31 :=
  ⟨by rw [relT_fields]; exact Tryd.underlying65, relT_fields, by decide, by decide, rfl, rfl, Tryd.underlying3, Tryd.isAgg3, Tryd.underlying63, Tryd.isAgg63, Tryd.sizeOf63, Tryd.underlying31, Tryd.sizeOf31, Tryd.isAgg31, by kernel_rfl, by kernel_rfl⟩
theorem elT_fact : ElT Tryd.prog 33 31 := ⟨Tryd.underlying33, Tryd.underlying31, Tryd.sizeOf31, Tryd.isAgg31, by kernel_rfl⟩
theorem zero_el : ∀ w, (zeroValue 33).run Tryd.prog w = .ok (.agg (elC el0)) w := fun w => by
  rw [elC_zero]; exact Tryd.zeroValue33 w
theorem zero_fac : ∀ w, (zeroValue 67).run Tryd.prog w = .ok (.agg (facC fac0)) w := fun w => Tryd.zeroValue67 w
theorem built_rel0 : Tryd.prog.built 65 [] = some (relC Rl.none) := by
  rw [relC_def]; rfl
theorem built_shp1 {v : Value} (h : v.cells = #[v]) : Tryd.prog.built 70 [(1, v)] = some #[B false, v] :=
  (show Tryd.prog.built 70 [(1, v)] = Instr.fill (#[(0, 1), (1, 1)][·]?) #[B false, .slice none 0 0] [(1, v)] from rfl).trans (by simp only [Instr.fill, h]; rfl)
theorem built_fac (k : Int) (b n : Nat) (l : List Tx) : Tryd.prog.built 67 [(0, I k), (1, .slice (some ⟨b, 0, none⟩) n n)] = some (facC ⟨k, .slice (some ⟨b, 0, none⟩) n n, l, Rl.none⟩) := rfl
theorem built_el1 (a : BitVec 64) : Tryd.prog.built 33 [(0, U a)] = some (elC (putE el0 0 a)) := by
  rw [elC_def]; rfl
theorem built_el0 : Tryd.prog.built 33 [] = some (elC el0) := by
  rw [elC_def]; rfl
theorem built_varL_0_1 (a : Tx) (b : Int) : Tryd.prog.built 74 [(0, S a), (1, I b)] = some (varL ⟨a, b, 0⟩).toArray := rfl
theorem built_lat (t : Tx) (p : Shp) : Tryd.prog.built 72 [(0, S t), (1, .agg (shpC p))] = some (latL ⟨t, p⟩).toArray := rfl
theorem built_scpV {v u : Value} (h : v.cells = #[v]) (h2 : u.cells = #[u]) : Tryd.prog.built 48 [(0, v), (1, u)] = some #[v, u] :=
  (show Tryd.prog.built 48 [(0, v), (1, u)] = Instr.fill (#[(0, 1), (1, 1)][·]?) #[.slice none 0 0, .slice none 0 0] [(0, v), (1, u)] from rfl).trans (by simp only [Instr.fill, h, h2]; rfl)
theorem built_asgV {v u : Value} (h : v.cells = #[v]) (h2 : u.cells = #[u]) : Tryd.prog.built 28 [(0, v), (1, u)] = some #[v, u] :=
  (show Tryd.prog.built 28 [(0, v), (1, u)] = Instr.fill (#[(0, 1), (1, 1)][·]?) #[.slice none 0 0, .slice none 0 0] [(0, v), (1, u)] from rfl).trans (by simp only [Instr.fill, h, h2]; rfl)
theorem built_val (a : Tx) (e : El) : Tryd.prog.built 61 [(0, S a), (1, .agg (elC e))] = some (valL ⟨a, e⟩).toArray := by
  rw [elC_def]; kernel_rfl
theorem eq_val (a b : ValR) : EqT Tryd.prog 61 (valL a).toArray (valL b).toArray (sameV a b) :=
  (eqT Tryd.underlying61 (by kernel_rfl) (by kernel_rfl) (.cons (fldS (a := a.name) (b := b.name) (by decide) Tryd.underlying9 Tryd.isAgg9 rfl rfl) (.cons (fldEl (a := a.el) (b := b.el) (by decide) elT_fact Tryd.isAgg33 Tryd.sizeOf33 (val_ext a) (val_ext b)) .nil))).conv (by simp [sameV])
theorem zero_lat : ∀ w, (zeroValue 72).run Tryd.prog w = .ok (.agg (latL lat0).toArray) w := fun w => Tryd.zeroValue72 w
theorem zero_val : ∀ w, (zeroValue 61).run Tryd.prog w = .ok (.agg (valL val0).toArray) w := fun w => (Tryd.zeroValue61 w).trans (by kernel_rfl)
theorem zero_asg : ∀ w, (zeroValue 28).run Tryd.prog w = .ok (.agg (asgL asg0).toArray) w := fun w => Tryd.zeroValue28 w
theorem zero_ins : ∀ w, (zeroValue 109).run Tryd.prog w = .ok (.agg (insL ins0).toArray) w := fun w => (Tryd.zeroValue109 w).trans (by kernel_rfl)
theorem zero_field : ∀ w, (zeroValue 59).run Tryd.prog w = .ok (.agg (fieldL field0).toArray) w := fun w => (Tryd.zeroValue59 w).trans (by kernel_rfl)
theorem zero_ass : ∀ w, (zeroValue 37).run Tryd.prog w = .ok (.agg (assL ass0).toArray) w := fun w => (Tryd.zeroValue37 w).trans (by kernel_rfl)
theorem built_row1 (t : Int) : Tryd.prog.built 24 [(1, I t)] = some (rtmL ⟨.slice none 0 0, [], t⟩).toArray := rfl
theorem built_row10 {v : Value} (l : List FieldR) (t : Int) (h : v.cells = #[v]) : Tryd.prog.built 24 [(1, I t), (0, v)] = some (rtmL ⟨v, l, t⟩).toArray :=
  (show Tryd.prog.built 24 [(1, I t), (0, v)] = Instr.fill (#[(0, 1), (1, 1)][·]?) #[.slice none 0 0, I 0] [(1, I t), (0, v)] from rfl).trans (by simp only [Instr.fill, h]; rfl)
theorem built_atom (v : Int) (e : El) : Tryd.prog.built 35 [(0, I v), (1, .agg (elC e))] = some (atomL ⟨v, e⟩).toArray := by
  rw [elC_def]; kernel_rfl
theorem built_field (t : Tx) (a : AtomR) : Tryd.prog.built 59 [(0, S t), (1, .agg (atomL a).toArray)] = some (fieldL ⟨t, a⟩).toArray := by kernel_rfl
theorem built_ass1 (op : Int) (a b : RowR) : Tryd.prog.built 37 [(0, I op), (4, .agg (rtmL a).toArray), (5, .agg (rtmL b).toArray)] = some (assL ⟨op, 0, .slice none 0 0, [], atom0, a, b, 0, tx0⟩).toArray := by kernel_rfl
theorem built_ass2 (op : Int) (f : Tx) : Tryd.prog.built 37 [(0, I op), (7, S f)] = some (assL ⟨op, 0, .slice none 0 0, [], atom0, row0, row0, 0, f⟩).toArray := by kernel_rfl
theorem built_prob (s : Scp) {v : Value} (l : List AssR) (h : v.cells = #[v]) : Tryd.prog.built 51 [(0, .agg (scpC s)), (1, v)] = some (probL ⟨s, v, l⟩).toArray :=
  (show Tryd.prog.built 51 [(0, .agg (scpC s)), (1, v)] = Instr.fill (#[(0, 2), (2, 1)][·]?) #[.slice none 0 0, .slice none 0 0, .slice none 0 0] [(0, .agg (scpC s)), (1, v)] from rfl).trans (by simp only [Instr.fill, h]; rfl)
theorem c_rung_chain (n : Int) (w : World) : Calls Tryd.prog 79 #[I n] w (Pure (B (chainB n)) w) := by
 refine enter Tryd.func79 rfl Tryd.ntmps79 rfl <| have hH := Hp.start w; SR <| va (v := B false) rfl <| RL.nil <| SR <| mI rfl <| V (run_geq rfl rfl) <| mB rfl <| RL.splitP (dj := 5) rfl (fun h2 => ?_) (fun h2 => ?_)
 ·refine gT rfl (bT h2) <| mI rfl <| gT rfl (bT h2) <| V (run_leq rfl rfl) <| V (run_pickT (bT h2) (v := B _) rfl) <| aB rfl <| RL.nil <| CW.ret <| outP1 Tryd.results79 (congrArg B ?_) hH.below
  (simp [chainB]; omega)
 ·refine gF rfl (bF h2) <| gF rfl (bF h2) <| V (run_pickF (bF h2) (v := B false) rfl) <| aB rfl <| RL.nil <| CW.ret <| outP1 Tryd.results79 (congrArg B ?_) hH.below
  (simp [chainB]; omega)
theorem c_mask_Below (n : Int) (w : World) : Calls Tryd.prog 60 #[I n] w (Pure (U (below n)) w) := by
 refine enter Tryd.func60 rfl Tryd.ntmps60 rfl <| have hH := Hp.start w; SR <| va (v := U 0#64) rfl <| RL.nil <| CW.seq <| SR <| mI rfl <| V (run_leq rfl rfl) <| RL.nil <| CW.condP rfl (fun h2 => ?_) (fun h2 => ?_)
 ·refine SR <| va (v := U 0#64) rfl <| RL.nil <| CW.ret <| outP1 Tryd.results60 (congrArg U (below_nonpos ‹_›).symm) hH.below
 ·refine CW.skip <| CW.seq <| SR <| mI rfl <| V (run_geq rfl rfl) <| RL.nil <| CW.condP rfl (fun h4 => ?_) (fun h4 => ?_)
  ·refine SR <| va (v := U 18446744073709551615#64) rfl <| RL.nil <| CW.ret <| outP1 Tryd.results60 (congrArg U (below_all ‹_›).symm) hH.below
  ·refine CW.skip <| SR <| mI rfl <| V (run_convIU underlying3 underlying125 rfl) <| V (run_shlU (a := 1#64) rfl rfl) <| V (run_subU rfl (b := 1#64) rfl) <| aU rfl <| RL.nil <| CW.ret <| outP1 Tryd.results60 (congrArg U (below_mid ‹_› ‹_›).symm) hH.below
theorem c_rung_Level (n : Int) (s : BitVec 64) (w : World) : Calls Tryd.prog 69 #[I n, U s] w (Pure (.tuple #[I (level n s).1, B (level n s).2]) w) := by
 refine enter Tryd.func69 rfl Tryd.ntmps69 rfl <| have hH := Hp.start w; SR <| va (v := I 0) rfl <| va (v := B false) rfl <| RL.nil <| CW.seq <| SR <| mI rfl <| RL.callP rfl hH (c_rung_chain _  _) (run_call1 call79 rfl) <| fun w1 hH2 => V (run_not rfl) <| RL.nil <| CW.cond rfl (fun h5 => ?_) (fun h5 => ?_)
 ·refine SR <| va (v := I 0) rfl <| va (v := B false) rfl <| RL.nil <| CW.ret <| have hn := chain_f ‹(!chainB n) = true›; ?_
  refine outP2 Tryd.results69 (congrArg I ?_) (congrArg B ?_) hH2.below <;> rw [level_no s hn]
 ·refine CW.skip <| CW.seq <| SR <| mI rfl <| vm (v := I 0) rfl <| RL.nil <| CW.block <| have hn := chain_t ‹(!chainB n) = false›; CW.loop (G := Int) (fun k s' w' => (Fr (rg 4 3 (rg 11 9 [])) _ s') ∧ (Hp w w' _) ∧ (s' 11 = I k) ∧ (0 ≤ k) ∧ (k ≤ n) ∧ (∀ j : Int, 0 ≤ j → j < k → s ≠ below j)) (fun k => (n - k).toNat) (0) ⟨Fr.refl _ _, hH2, rfl, (by omega), (by omega), fun j a b => absurd b (by omega)⟩ <| ?_
  rintro k sg6 w6 ⟨fr6, hH6, e11_6, h0, hk, hf⟩
  have e1_6 := fr6.uu 1 rfl rfl
  have e10_6 := fr6.ii 10 rfl rfl
  refine SR <| V (run_lss e11_6 e10_6) <| RL.nil <| CW.seq <| CW.condP rfl (fun h8 => ?_) (fun h8 => ?_)
  ·refine CW.skip <| CW.seq <| CW.block <| SR <| vm e11_6 <| aI rfl <| RL.nil <| SR <| vm e1_6 <| mI rfl <| RL.callP rfl hH6 (c_mask_Below _  _) (run_call1 call60 rfl) <| fun w9 hH10 => V (run_eqlU rfl rfl) <| RL.nil <| CW.condP rfl (fun h12 => ?_) (fun h12 => ?_)
   ·refine SR <| mI rfl <| aI rfl <| va (v := B true) rfl <| RL.nil <| CW.ret <| ?_
    refine outP2 Tryd.results69 (congrArg I ?_) (congrArg B ?_) hH10.below <;> rw [level_at hn h0 (by omega) ‹_› hf]
   ·refine CW.skip <| CW.region <| V (run_add e11_6 rfl (by omega)) <| mI rfl <| RL.nil <| ?_
    refine ⟨k + 1, ?_, fr6.u4.u4.u1, hH10, (congrArg I (by rfl)), ?_, ?_, ?_⟩
    ·((try dsimp only); omega)
    ·omega
    ·omega
    ·exact fun j a b => if e : j = k then e ▸ ‹¬ s = below k› else hf j a (by omega)
  ·refine CW.exit (id := 0) rfl <| SR <| va (v := I 0) rfl <| va (v := B false) rfl <| RL.nil <| CW.ret <| ?_
   refine outP2 Tryd.results69 (congrArg I ?_) (congrArg B ?_) hH6.below <;> rw [level_none hn (fun j a b => hf j a (by omega))]
theorem c_mask_in (i : Int) (w : World) : Calls Tryd.prog 100 #[I i] w (Pure (B (inB i)) w) := by
 refine enter Tryd.func100 rfl Tryd.ntmps100 rfl <| have hH := Hp.start w; SR <| va (v := B false) rfl <| RL.nil <| SR <| mI rfl <| V (run_geq rfl rfl) <| mB rfl <| RL.splitP (dj := 5) rfl (fun h2 => ?_) (fun h2 => ?_)
 ·refine gT rfl (bT h2) <| mI rfl <| gT rfl (bT h2) <| V (run_lss rfl rfl) <| V (run_pickT (bT h2) (v := B _) rfl) <| aB rfl <| RL.nil <| CW.ret <| outP1 Tryd.results100 (congrArg B ?_) hH.below
  (simp [inB]; try omega)
 ·refine gF rfl (bF h2) <| gF rfl (bF h2) <| V (run_pickF (bF h2) (v := B false) rfl) <| aB rfl <| RL.nil <| CW.ret <| outP1 Tryd.results100 (congrArg B ?_) hH.below
  (simp [inB]; try omega)
theorem c_mask_Has (s : BitVec 64) (i : Int) (w : World) : Calls Tryd.prog 98 #[U s, I i] w (Pure (B (hasB s i)) w) := by
 refine enter Tryd.func98 rfl Tryd.ntmps98 rfl <| have hH := Hp.start w; SR <| va (v := B false) rfl <| RL.nil <| SR <| mI rfl <| RL.callP rfl hH (c_mask_in _  _) (run_call1 call100 rfl) <| fun w1 hH2 => mB rfl <| RL.split (dj := 7) rfl (fun h4 => ?_) (fun h4 => ?_)
 ·refine gT rfl (bR (c := true) h4) <| mU rfl <| gT rfl (bR (c := true) h4) <| mI rfl <| gT rfl (bR (c := true) h4) <| V (run_convIU underlying3 underlying125 rfl) <| gT rfl (bR (c := true) h4) <| V (run_shrU rfl rfl) <| gT rfl (bR (c := true) h4) <| V (run_andU rfl (b := 1#64) rfl) <| gT rfl (bR (c := true) h4) <| V (run_eqlU rfl (b := 1#64) rfl) <| V (run_pickT (bR (c := true) h4) (v := B _) rfl) <| aB rfl <| RL.nil <| CW.ret <| outP1 Tryd.results98 (congrArg B ?_) hH2.below
  exact has_bit s ‹inB i = true›
 ·refine gF rfl (bR (c := false) h4) <| gF rfl (bR (c := false) h4) <| gF rfl (bR (c := false) h4) <| gF rfl (bR (c := false) h4) <| gF rfl (bR (c := false) h4) <| gF rfl (bR (c := false) h4) <| V (run_pickF (bR (c := false) h4) (v := B false) rfl) <| aB rfl <| RL.nil <| CW.ret <| outP1 Tryd.results98 (congrArg B ?_) hH2.below
  exact (has_no s ‹inB i = false›).symm
theorem c_mask_With (s : BitVec 64) (i : Int) (w : World) : Calls Tryd.prog 96 #[U s, I i] w (Pure (U (withB s i)) w) := by
 refine enter Tryd.func96 rfl Tryd.ntmps96 rfl <| have hH := Hp.start w; SR <| va (v := U 0#64) rfl <| RL.nil <| CW.seq <| SR <| mI rfl <| RL.callP rfl hH (c_mask_in _  _) (run_call1 call100 rfl) <| fun w1 hH2 => V (run_not rfl) <| RL.nil <| CW.cond rfl (fun h5 => ?_) (fun h5 => ?_)
 ·refine SR <| mU rfl <| aU rfl <| RL.nil <| CW.ret <| outP1 Tryd.results96 (congrArg U ?_) hH2.below
  simp_all [withB]
 ·refine CW.skip <| SR <| mU rfl <| mI rfl <| V (run_convIU underlying3 underlying125 rfl) <| V (run_shlU (a := 1#64) rfl rfl) <| V (run_orU rfl rfl) <| aU rfl <| RL.nil <| CW.ret <| outP1 Tryd.results96 (congrArg U ?_) hH2.below
  simp_all [withB]
theorem c_mask_Sub (a b : BitVec 64) (w : World) : Calls Tryd.prog 53 #[U a, U b] w (Pure (B (subB a b)) w) := by
 refine enter Tryd.func53 rfl Tryd.ntmps53 rfl <| have hH := Hp.start w; SR <| va (v := B false) rfl <| RL.nil <| SR <| mU rfl <| mU rfl <| V (run_andNotU rfl rfl) <| V (run_eqlU rfl (b := 0#64) rfl) <| aB rfl <| RL.nil <| CW.ret <| outP1 Tryd.results53 (congrArg B ?_) hH.below
 rfl
theorem c_mask_Of (v : Value) (l : List Int) (w : World) (hs : Sl w v 1 l.length (l.map I)) : Calls Tryd.prog 84 #[v] w (Pure (U (ofl l)) w) := by
 have hm := hs.small
 unfold maxLen at hm
 refine enter Tryd.func84 rfl Tryd.ntmps84 rfl <| have hH := Hp.start w; SR <| va (v := U 0#64) rfl <| RL.nil <| SR <| va (v := U 0#64) rfl <| RL.nil <| CW.seq <| SR <| ?_
 refine V (run_move (by conv => lhs; whnf)) ?_
 refine V (run_lenSl (hs.hp hH) rfl underlying133 rfl) <| vm (v := I 0) rfl <| RL.nil <| CW.block <| CW.loop (G := Int) (fun k s' w' => (Fr (3 :: (5 :: (rg 8 8 []))) _ s') ∧ (Hp w w' _) ∧ (s' 3 = U (ofl (l.take k.toNat))) ∧ (s' 8 = I k) ∧ (0 ≤ k) ∧ (k ≤ l.length)) (fun k => (l.length - k).toNat) (0) ⟨Fr.refl _ _, hH, (congrArg U (by simp [ofl_nil])), rfl, (by omega), (by omega)⟩ <| ?_
 rintro k sg1 w1 ⟨fr1, hH1, e3_1, e8_1, h0, hk⟩
 have e6_1 := (fr1 6 rfl).trans (by conv => lhs; whnf)
 have e7_1 := fr1.ii 7 rfl rfl
 refine SR <| V (run_lss e8_1 e7_1) <| RL.nil <| CW.seq <| CW.condP rfl (fun h3 => ?_) (fun h3 => ?_)
 ·refine CW.skip <| CW.seq <| CW.block <| SR <| V (run_indexAddrS (hs.hp hH1) underlying133 sizeOf3 e6_1 e8_1 (by omega)) <| V (run_ld underlying3 rfl rfl ((hs.hp hH1).cell _ _ (map_at (by omega)))) <| aI rfl <| RL.nil <| CW.region <| vm e3_1 <| mI rfl <| RL.callP rfl hH1 (c_mask_With _ _  _) (run_call2 call96 rfl rfl) <| fun w4 hH5 => aU rfl <| RL.nil <| CW.region <| V (run_add e8_1 rfl (by omega)) <| mI rfl <| RL.nil <| ?_
  refine ⟨k + 1, ?_, fr1.u4.u4.u1.u1, hH5, (congrArg U (by rw [withB_ofl, ← take_next h0 ‹_›])), (congrArg I (by rfl)), ?_, ?_⟩
  ·((try dsimp only); omega)
  ·omega
  ·omega
 ·refine CW.exit (id := 0) rfl <| SR <| vm e3_1 <| aU rfl <| RL.nil <| CW.ret <| outP1 Tryd.results84 (congrArg U ?_) hH1.below
  rw [take_all ‹_›]
theorem c_rung_Right (n : Int) (s : BitVec 64) (w : World) : Calls Tryd.prog 59 #[I n, U s] w (Pure (B (level n s).2) w) := by
 refine enter Tryd.func59 rfl Tryd.ntmps59 rfl <| have hH := Hp.start w; SR <| va (v := B false) rfl <| RL.nil <| SR <| mI rfl <| mU rfl <| RL.callP rfl hH (c_rung_Level _ _  _) (run_call2 call69 rfl rfl) <| fun w1 hH2 => ?_
 refine V (run_move (by conv => lhs; whnf)) ?_
 refine V (run_extract rfl (v := I _) rfl) <| V (run_extract rfl (v := B _) rfl) <| aI rfl <| aB rfl <| RL.nil <| SR <| mB rfl <| aB rfl <| RL.nil <| CW.ret <| outP1 Tryd.results59 (congrArg B ?_) hH2.below
 rfl
theorem c_bits_TrailingZeros64 (s : BitVec 64) (w : World) (hT : Tab w) : Calls Tryd.prog 99 #[U s] w (Pure (I (tz s)) w) := by
 refine enter Tryd.func99 rfl Tryd.ntmps99 rfl <| have hH := Hp.start w; SR <| va (v := I 0) rfl <| RL.nil <| CW.seq <| SR <| mU rfl <| V (run_eqlU rfl (b := 0#64) rfl) <| RL.nil <| CW.condP rfl (fun h2 => ?_) (fun h2 => ?_)
 ·refine SR <| va (v := I 64) rfl <| RL.nil <| CW.ret <| outP1 Tryd.results99 (congrArg I ?_) hH.below
  rw [‹s = 0#64›]; rfl
 ·refine CW.skip <| SR <| mU rfl <| mU rfl <| V (run_negU rfl) <| V (run_andU rfl rfl) <| V (run_mulU rfl (b := 285870213051353865#64) rfl) <| V (run_shrU rfl (b := 58#64) rfl) <| V (run_indexAddrA underlying144 sizeOf5 rfl rfl (by exact tz_idx _)) <| V (run_ld underlying5 rfl rfl (hT.at _)) <| V (run_convUI underlying5 underlying3 rfl (conv_bd (tztab_bd _))) <| aI rfl <| RL.nil <| CW.ret <| outP1 Tryd.results99 (congrArg I ?_) hH.below
  exact tz_ne ‹_›
theorem c_mask_Each (f : FuncId) (cap : Array Value) (Inv Stop : List Int → World → Prop) (s : BitVec 64) (w : World) (hf : ∀ args w, (callFunc f args).run Tryd.prog w = .ok (.enter f args) w) (hm : ∀ l w w', Inv l w → Below w.heap.size w w' → Inv l w') (hT : ∀ l w, Inv l w → Tab w) (go : ∀ l i r w, lst s = l ++ i :: r → Inv l w → Calls Tryd.prog f (#[I i] ++ cap) w (Ret fun u w' => ∃ c : Bool, u = B c ∧ (c = true → Inv (l ++ [i]) w') ∧ (c = false → Stop (l ++ [i]) w'))) (h0 : Inv [] w) : Calls Tryd.prog 94 #[U s, .func (.func f) #[] cap] w (Ret fun u w' => u = .tuple #[] ∧ (Inv (lst s) w' ∨ ∃ l i r, lst s = l ++ i :: r ∧ Stop (l ++ [i]) w')) := by
 refine enter Tryd.func94 rfl Tryd.ntmps94 rfl <| have hH := Hp.start w; CW.block <| CW.loop (G := (BitVec 64) × (List Int)) (fun ⟨s1, l⟩ s' w' => (Fr (0 :: (rg 4 11 [])) _ s') ∧ (Inv l w') ∧ (s' 0 = U s1) ∧ (lst s = l ++ lst s1)) (fun ⟨s1, l⟩ => (lst s1).length) ((s, [])) ⟨Fr.refl _ _, h0, rfl, (by simp)⟩ <| ?_
 rintro ⟨s1, l⟩ sg1 w1 ⟨fr1, hH1, e0_1, hl⟩
 have hI1 := hH1
 clear hH1
 have hH1 := Hp.start w1
 have e1_1 := fr1.vv 1 (a := .func _ _ _) rfl rfl
 refine CW.seq <| SR <| vm e0_1 <| V (run_neqU rfl (b := 0#64) rfl) <| RL.nil <| CW.condP rfl (fun h3 => ?_) (fun h3 => ?_)
 ·refine CW.skip <| CW.block <| CW.seq <| SR <| vm e1_1 <| vm e0_1 <| RL.callP rfl hH1 (c_bits_TrailingZeros64 _ _ (hT _ _ hI1)) (run_call1 call99 rfl) <| fun w4 hH5 => have hI := hm _ _ _ hI1 hH5.below; RL.call rfl (run_callV1 hf rfl (v1 := I (tz s1)) rfl) (go l (tz s1) (lst (s1 &&& (s1 - 1#64))) _ (by rw [hl, lst_tz ‹_›]) hI) <| ?_
  rintro u8 w6 ⟨c, rfl, hJ1, hJ2⟩
  have hH7 := Hp.start w6
  refine V (run_not rfl) <| RL.nil <| CW.cond rfl (fun h11 => ?_) (fun h11 => ?_)
  ·refine CW.ret <| out0 Tryd.results94 ⟨rfl, .inr ⟨l, tz s1, lst (s1 &&& (s1 - 1#64)), by rw [hl, lst_tz ‹_›], hJ2 (by simpa using ‹(!c) = true›)⟩⟩
  ·refine CW.skip <| CW.region <| vm e0_1 <| vm e0_1 <| V (run_subU rfl (b := 1#64) rfl) <| V (run_andU rfl rfl) <| aU rfl <| RL.nil <| ?_
   refine ⟨(s1 &&& (s1 - 1#64), l ++ [tz s1]), ?_, fr1.u4.u4.u4, (hJ1 (by simpa using ‹(!c) = false›)), rfl, ?_⟩
   ·exact lst_clear_lt ‹_›
   ·rw [hl, lst_tz ‹_›]; simp
 ·refine CW.exit (id := 0) rfl <| have hn : lst s1 = [] := lst_eq_nil.2 (by simpa using ‹¬ s1 ≠ 0#64›); out0 Tryd.results94 ⟨rfl, .inl (by rw [hl, hn, List.append_nil]; assumption)⟩
theorem c_mask_List_1 (W0 : World) (b : Nat) (v : Value) (l : List Int) (i : Int) (w : World) (hH : Hp W0 w [.row v 3 1 l.length (l.map I), .blk b (.cells #[v] 133 (0, 0))]) (hlen : l.length ≤ 64) : Calls Tryd.prog 95 #[I i, .pointer (some ⟨b, 0, none⟩)] w (Ret fun u w' => u = B true ∧ ∃ v', Hp W0 w' [.row v' 3 1 (l ++ [i]).length ((l ++ [i]).map I), .blk b (.cells #[v'] 133 (0, 0))]) := by
 refine enter Tryd.func95 rfl Tryd.ntmps95 rfl <| SR <| va (v := B false) rfl <| RL.nil <| SR <| V (run_ld underlying133 rfl rfl (hH.cell (i := 1) rfl rfl)) <| mI rfl <| RL.new rfl hH (f := fun b => (.slice (some ⟨b, 0, none⟩) 1 1)) (run_mkL underlying133 rfl rfl (sz := 1) (vs := [I _]) rfl rfl (by decide) (by decide) rfl rfl) <| fun b3 w1 hH2 => ?_
 (try simp only [clX] at hH2)
 refine RL.app rfl hH2 (i := 1) rfl (hH2.slBlk (i := 0) (n := 1) (sz := 1) rfl rfl (by decide)) rfl rfl underlying133 rfl rfl (size := 1) (bytes := 8) rfl rfl rfl (by decide) (by simp [Value.oneCell']) (by omega) (by simp only [maxLen]; omega) <| fun v4 w5 hH6 => ?_
 simp only [z2] at hH6
 refine RL.set hH6 (i := 2) rfl (run_st rfl rfl (by conv => lhs; whnf) (row_cells (hH6.get (i := 1) rfl)).1 (row_cells (hH6.get (i := 1) rfl)).2 (hH6.blk (i := 2) rfl) (by simp)) ?_
 intro w7 hH8
 simp only [z2] at hH8
 refine RL.nil <| SR <| va (v := B true) rfl <| RL.nil <| CW.ret <| out1 Tryd.results95 rfl ⟨rfl, (v4 : Value), Hp.conv hH8.tail (by simp)⟩
theorem c_mask_List (s : BitVec 64) (w : World) (hT : Tab w) : Calls Tryd.prog 82 #[U s] w (PureRow 3 1 (lst s).length ((lst s).map I) w) := by
 refine enter Tryd.func82 rfl Tryd.ntmps82 rfl <| have hH := Hp.start w; SR <| va (v := .slice none 0 0) rfl <| RL.nil <| SR <| RL.new rfl hH (f := fun b => (.pointer (some ⟨b, 0, none⟩))) (run_alloc Tryd.zeroValue133) <| fun b3 w1 hH2 => have hH4 := hH2.nilRow 3 1; RL.nil <| SR <| mU rfl <| ?_
 refine V (run_mkF1 (by conv => lhs; whnf)) ?_
 refine RL.call rfl (run_call2 call94 (v1 := U s) rfl (v2 := .func (.func 95) #[] #[.pointer (some ⟨b3, 0, none⟩)]) rfl) (c_mask_Each 95 _ (fun l w' => ∃ v, Hp w w' [.row v 3 1 l.length (l.map I), .blk b3 (.cells #[v] 133 (0, 0))]) (fun _ _ => False) s _ call95 (fun l w' w'' h hb => h.imp fun v h => h.call hb) (fun l w' h => h.elim fun v h => hT.hp h) (fun l i r w' he h => h.elim fun v h => by
   have hl64 : l.length ≤ 64 := by have := lst_len s; rw [he] at this; simp at this; omega
   have hc := c_mask_List_1 w b3 v l i w' h hl64
   refine Ret.calls hc <| fun u w2 hq => ⟨true, hq.1, fun _ => hq.2, fun h => by cases h⟩) ⟨.slice none 0 0, hH4⟩) ?_
 rintro u w5 ⟨rfl, hor⟩
 obtain ⟨v7, hH6⟩ := hor.resolve_right (fun ⟨_, _, _, _, h⟩ => h)
 refine RL.nil <| SR <| V (run_ld underlying133 rfl rfl (hH6.cell (i := 1) rfl rfl)) <| ?_
 refine V (run_assign (by conv => lhs; whnf)) ?_
 refine RL.nil <| CW.ret <| outR Tryd.results82 rfl hH6 (i := 0) rfl (rfl) (rfl)
theorem c_relate_points (r : Rl) (w : World) : Calls Tryd.prog 87 #[.agg (relC r)] w (Pure (I (pts r)) w) := by
 refine enter Tryd.func87 rfl Tryd.ntmps87 rfl <| have hH := Hp.start w; SR <| RL.new rfl hH (f := fun b => (.pointer (some ⟨b, 0, none⟩))) (run_box (v := .agg _) rfl) <| fun b3 w1 hH2 => va (v := I 0) rfl <| RL.nil <| SR <| V (fA underlying65 0 rfl sizeOf3 rfl) <| V (run_ld underlying3 rfl rfl (hH2.cell (i := 0) rfl (relC_N _))) <| V (run_minI rfl rfl) <| V (run_maxI rfl rfl) <| aI rfl <| RL.nil <| CW.ret <| outP1 Tryd.results87 (congrArg I ?_) hH2.below
 rfl
theorem c_relate_row (r : Rl) (i : Int) (hi : 0 ≤ i ∧ i < 64) (w : World) : Calls Tryd.prog 89 #[.agg (relC r), I i] w (Pure (U (rowR r i)) w) := by
 refine enter Tryd.func89 rfl Tryd.ntmps89 rfl <| have hH := Hp.start w; SR <| RL.new rfl hH (f := fun b => (.pointer (some ⟨b, 0, none⟩))) (run_box (v := .agg _) rfl) <| fun b3 w1 hH2 => va (v := U 0#64) rfl <| RL.nil <| CW.seq <| CW.regionD (by kernel_rfl) hH2 <| fun w4 hH5 => have zh5 := hH5.sub sR; AQ 0 rfl zh5 (mV (I _) rfl) <| AQ 1 rfl zh5 (fA underlying65 1 rfl sizeOf63 rfl) <| AQ 2 rfl zh5 (run_indexAddrA underlying63 sizeOf31 rfl rfl (by omega)) <| AT 3 rfl zh5 (fun w hS => run_ld underlying31 rfl rfl (hS.cell (i := 0) rfl (relC_up _ (by omega)))) <| AT 4 rfl zh5 (fun w hS => run_ldRel underlying65 rfl rfl rfl (hS.blk (i := 0) rfl)) <| A1 5 <| AO.callP rfl gnone rfl hH5 sR (c_relate_points _  _) (run_call1 call87 rfl) <| fun w6 hH7 => A1 6 <| AO.callP rfl gnone rfl hH7 sR (c_mask_Below _  _) (run_call1 call60 rfl) <| fun w8 hH9 => AQ 7 rfl (hH9.sub sR) (run_andU rfl rfl) <| AQ 8 rfl (hH9.sub sR) (aV (U _) rfl) <| AD <| CW.ret <| outP1 Tryd.results89 (congrArg U ?_) hH9.below
 rfl
theorem c_relate_plain (r : Rl) (w : World) : Calls Tryd.prog 74 #[.agg (relC r)] w (Pure (.agg (relC (plainR r))) w) := by
 have hp := pts_bd r
 refine enter Tryd.func74 rfl Tryd.ntmps74 rfl <| have hH := Hp.start w; SR <| RL.new rfl hH (f := fun b => (.pointer (some ⟨b, 0, none⟩))) (run_box (v := .agg _) rfl) <| fun b3 w1 hH2 => RL.new rfl hH2 (f := fun b => (.pointer (some ⟨b, 0, none⟩))) (run_alloc zero_rel) <| fun b6 w4 hH5 => RL.nil <| SR <| V (run_ldRel underlying65 rfl rfl rfl (hH5.blk (i := 1) rfl)) <| RL.callP rfl hH5 (c_relate_points _  _) (run_call1 call87 rfl) <| fun w7 hH8 => V (run_bld (vs := [(0, I _)]) rfl (built_rel _)) <| RL.new rfl hH8 (f := fun b => (.pointer (some ⟨b, 0, none⟩))) (run_alloc zero_rel) <| fun b11 w9 hH10 => RL.set hH10 (i := 0) rfl (run_stRel rfl rfl rfl (hH10.blk (i := 0) rfl)) <| fun w12 hH13 => ?_
 simp only [z2] at hH13
 refine RL.nil <| CW.seq <| SR <| V (fA underlying65 0 rfl sizeOf3 rfl) <| V (run_ld underlying3 rfl rfl (hH13.cell (i := 0) rfl (relC_N _))) <| vm (v := I 0) rfl <| RL.nil <| CW.block <| have hz : (⟨pts r, fun _ => 0#64⟩ : Rl).n = pts r := rfl; CW.loop (G := Int × Rl) (fun ⟨k, r1⟩ s' w' => (Fr (4 :: (rg 10 10 [])) _ s') ∧ (Hp w w' (.blk b11 (.cells (relC r1) 65 (0, 0)) :: _)) ∧ (s' 10 = I k) ∧ (0 ≤ k) ∧ (k ≤ pts r) ∧ (r1 = fillR (pts r) (fun i => rowR r i) k)) (fun ⟨k, r1⟩ => (pts r - k).toNat) ((0, ⟨pts r, fun _ => 0#64⟩)) ⟨Fr.refl _ _, hH13, rfl, (by omega), (by omega), fill_zero _ _⟩ <| ?_
 rintro ⟨k, r1⟩ sg14 w14 ⟨fr14, hH14, e10_14, h0, hk, hr⟩
 have e1_14 := fr14.pp 1 rfl rfl
 have e2_14 := fr14.pp 2 rfl rfl
 have e3_14 := fr14.pp 3 rfl rfl
 have e9_14 := fr14.ii 9 rfl rfl
 have hn : r1.n = pts r := by rw [hr]; rfl
 refine SR <| V (run_lss e10_14 e9_14) <| RL.nil <| CW.seq <| CW.condP rfl (fun h16 => ?_) (fun h16 => ?_)
 ·refine CW.skip <| CW.seq <| CW.block <| SR <| vm e10_14 <| aI rfl <| RL.nil <| CW.region <| mI rfl <| V (run_ldRel underlying65 rfl rfl e1_14 (hH14.blk (i := 2) rfl)) <| mI rfl <| RL.callP rfl hH14 (c_relate_row _ _ (by omega) _) (run_call2 call89 rfl rfl) <| fun w17 hH18 => V (fA underlying65 1 rfl sizeOf63 e3_14) <| V (run_indexAddrA underlying63 sizeOf31 rfl rfl (by omega)) <| RL.set hH18 (i := 0) rfl (run_st rfl rfl (v := U _) rfl rfl rfl (hH18.blk (i := 0) rfl) (by rw [relC_size]; omega)) <| fun w19 hH20 => ?_
  simp only [z2] at hH20
  rw [relC_put] at hH20
  refine RL.nil <| CW.region <| V (run_add e10_14 rfl (by omega)) <| mI rfl <| RL.nil <| ?_
  refine ⟨(k + 1, _), ?_, fr14.u4.u4.u1.u1.u1, hH20, (congrArg I (by rfl)), ?_, ?_, ?_⟩
  ·((try dsimp only); omega)
  ·omega
  ·omega
  ·rw [hr]; exact fill_put h0 (by rw [Int.toNat_of_nonneg h0])
 ·refine CW.exit (id := 0) rfl <| SR <| V (run_ldRel underlying65 rfl rfl e3_14 (hH14.blk (i := 0) rfl)) <| RL.set hH14 (i := 1) rfl (run_stRel rfl e2_14 rfl (hH14.blk (i := 1) rfl)) <| fun w21 hH22 => ?_
  simp only [z2] at hH22
  refine RL.nil <| CW.ret <| outC Tryd.results74 e2_14 hH22 (i := 1) rfl underlying65 rfl rfl ⟨?_, hH22.below⟩
  (rw [hr, show k = pts r by omega]; rfl)
theorem c_relate_Up (r : Rl) (s : BitVec 64) (w : World) (hT : Tab w) : Calls Tryd.prog 83 #[.agg (relC r), U s] w (Pure (U (upR r s)) w) := by
 have hp := pts_bd r
 refine enter Tryd.func83 rfl Tryd.ntmps83 rfl <| have hH := Hp.start w; SR <| RL.new rfl hH (f := fun b => (.pointer (some ⟨b, 0, none⟩))) (run_box (v := .agg _) rfl) <| fun b3 w1 hH2 => va (v := U 0#64) rfl <| RL.nil <| SR <| va (v := U 0#64) rfl <| RL.nil <| CW.seq <| SR <| mU rfl <| V (run_ldRel underlying65 rfl rfl rfl (hH2.blk (i := 0) rfl)) <| RL.callP rfl hH2 (c_relate_points _  _) (run_call1 call87 rfl) <| fun w4 hH5 => RL.callP rfl hH5 (c_mask_Below _  _) (run_call1 call60 rfl) <| fun w6 hH7 => V (run_andU rfl rfl) <| RL.callR rfl hH7 (c_mask_List _  _ (hT.hp hH7)) (run_call1 call82 rfl) <| fun v10 w8 hH9 => V (run_lenSl (hH9.sl (i := 0) rfl) rfl underlying133 rfl) <| vm (v := I 0) rfl <| RL.nil <| CW.block <| have hl := lst_len (s &&& below (pts r)); CW.loop (G := Int) (fun k s' w' => (Fr (5 :: (7 :: (rg 15 10 []))) _ s') ∧ (Hp w w' _) ∧ (s' 5 = U (orAll (rowR r) ((lst (s &&& below (pts r))).take k.toNat))) ∧ (s' 15 = I k) ∧ (0 ≤ k) ∧ (k ≤ (lst (s &&& below (pts r))).length)) (fun k => ((lst (s &&& below (pts r))).length - k).toNat) (0) ⟨Fr.refl _ _, hH9, (congrArg U (by simp [orAll])), rfl, (by omega), (by omega)⟩ <| ?_
 rintro k sg11 w11 ⟨fr11, hH11, e5_11, e15_11, h0, hk⟩
 have e2_11 := fr11.pp 2 rfl rfl
 have e13_11 := (fr11 13 rfl).trans (by conv => lhs; whnf)
 have e14_11 := fr11.ii 14 rfl rfl
 refine SR <| V (run_lss e15_11 e14_11) <| RL.nil <| CW.seq <| CW.condP rfl (fun h13 => ?_) (fun h13 => ?_)
 ·refine CW.skip <| CW.seq <| CW.block <| SR <| V (run_indexAddrS (hH11.sl (i := 0) rfl) underlying133 sizeOf3 e13_11 e15_11 (by omega)) <| V (run_ld underlying3 rfl rfl ((hH11.sl (i := 0) rfl).cell _ _ (map_at (by omega)))) <| aI rfl <| RL.nil <| CW.region <| vm e5_11 <| V (run_ldRel underlying65 rfl rfl e2_11 (hH11.blk (i := 1) rfl)) <| mI rfl <| RL.callP rfl hH11 (c_relate_row _ _ (by exact lst_at_bd (by assumption) (by assumption)) _) (run_call2 call89 rfl rfl) <| fun w14 hH15 => V (run_orU rfl rfl) <| aU rfl <| RL.nil <| CW.region <| V (run_add e15_11 rfl (by omega)) <| mI rfl <| RL.nil <| ?_
  refine ⟨k + 1, ?_, fr11.u4.u4.u4, hH15, (congrArg U (orAll_next h0 ‹_›)), (congrArg I (by rfl)), ?_, ?_⟩
  ·((try dsimp only); omega)
  ·omega
  ·omega
 ·refine CW.exit (id := 0) rfl <| SR <| vm e5_11 <| aU rfl <| RL.nil <| CW.ret <| outP1 Tryd.results83 (congrArg U ?_) hH11.below
  (rw [take_all ‹_›]; rfl)
theorem c_relate_Down (r : Rl) (s : BitVec 64) (w : World) : Calls Tryd.prog 85 #[.agg (relC r), U s] w (Pure (U (downR r s)) w) := by
 have hp := pts_bd r
 refine enter Tryd.func85 rfl Tryd.ntmps85 rfl <| have hH := Hp.start w; SR <| RL.new rfl hH (f := fun b => (.pointer (some ⟨b, 0, none⟩))) (run_box (v := .agg _) rfl) <| fun b3 w1 hH2 => va (v := U 0#64) rfl <| RL.nil <| SR <| va (v := U 0#64) rfl <| RL.nil <| CW.seq <| SR <| V (run_ldRel underlying65 rfl rfl rfl (hH2.blk (i := 0) rfl)) <| RL.callP rfl hH2 (c_relate_points _  _) (run_call1 call87 rfl) <| fun w4 hH5 => vm (v := I 0) rfl <| RL.nil <| CW.block <| CW.loop (G := Int) (fun k s' w' => (Fr (5 :: 6 :: (rg 9 13 [])) _ s') ∧ (Hp w w' _) ∧ (s' 5 = U (downTo r s k)) ∧ (s' 9 = I k) ∧ (0 ≤ k) ∧ (k ≤ pts r)) (fun k => (pts r - k).toNat) (0) ⟨Fr.refl _ _, hH5, (congrArg U (by simp [downTo, bitsTo])), rfl, (by omega), (by omega)⟩ <| ?_
 rintro k sg6 w6 ⟨fr6, hH6, e5_6, e9_6, h0, hk⟩
 have e1_6 := fr6.uu 1 rfl rfl
 have e2_6 := fr6.pp 2 rfl rfl
 have e8_6 := fr6.ii 8 rfl rfl
 refine SR <| V (run_lss e9_6 e8_6) <| RL.nil <| CW.seq <| CW.condP rfl (fun h8 => ?_) (fun h8 => ?_)
 ·refine CW.skip <| CW.seq <| CW.block <| SR <| vm e9_6 <| aI rfl <| RL.nil <| SR <| V (run_ldRel underlying65 rfl rfl e2_6 (hH6.blk (i := 0) rfl)) <| mI rfl <| RL.callP rfl hH6 (c_relate_row _ _ (by omega) _) (run_call2 call89 rfl rfl) <| fun w9 hH10 => vm e1_6 <| V (run_andU rfl rfl) <| V (run_neqU rfl (b := 0#64) rfl) <| RL.nil <| CW.condP rfl (fun h12 => ?_) (fun h12 => ?_)
  ·refine CW.region <| vm e5_6 <| mI rfl <| RL.callP rfl hH10 (c_mask_With _ _  _) (run_call2 call96 rfl rfl) <| fun w13 hH14 => aU rfl <| RL.nil <| CW.region <| V (run_add e9_6 rfl (by omega)) <| mI rfl <| RL.nil <| ?_
   refine ⟨k + 1, ?_, fr6.u4.u4.u4.u1.u1.u1, hH14, (congrArg U (by exact down_yes h0 (by omega) ‹_›)), (congrArg I (by rfl)), ?_, ?_⟩
   ·((try dsimp only); omega)
   ·omega
   ·omega
  ·refine CW.skip <| CW.region <| V (run_add e9_6 rfl (by omega)) <| mI rfl <| RL.nil <| ?_
   refine ⟨k + 1, ?_, fr6.u4.u4.u1.u1.u1, hH10, (Eq.trans e5_6 (congrArg U (by exact down_not h0 ‹_›))), (congrArg I (by rfl)), ?_, ?_⟩
   ·((try dsimp only); omega)
   ·omega
   ·omega
 ·refine CW.exit (id := 0) rfl <| SR <| vm e5_6 <| aU rfl <| RL.nil <| CW.ret <| outP1 Tryd.results85 (congrArg U ?_) hH6.below
  (rw [show k = pts r by omega]; rfl)
theorem c_relate_Closure (r : Rl) (w : World) : Calls Tryd.prog 90 #[.agg (relC r)] w (Pure (.agg (relC (cloR r))) w) := by
 have hp := pts_bd r
 have hn0 : (plainR r).n = pts r := rfl
 refine enter Tryd.func90 rfl Tryd.ntmps90 rfl <| have hH := Hp.start w; SR <| RL.new rfl hH (f := fun b => (.pointer (some ⟨b, 0, none⟩))) (run_box (v := .agg _) rfl) <| fun b3 w1 hH2 => RL.new rfl hH2 (f := fun b => (.pointer (some ⟨b, 0, none⟩))) (run_alloc zero_rel) <| fun b6 w4 hH5 => RL.nil <| SR <| V (run_ldRel underlying65 rfl rfl rfl (hH5.blk (i := 1) rfl)) <| RL.callP rfl hH5 (c_relate_plain _  _) (run_call1 call74 rfl) <| fun w7 hH8 => RL.new rfl hH8 (f := fun b => (.pointer (some ⟨b, 0, none⟩))) (run_alloc zero_rel) <| fun b11 w9 hH10 => RL.set hH10 (i := 0) rfl (run_stRel rfl rfl rfl (hH10.blk (i := 0) rfl)) <| fun w12 hH13 => ?_
 simp only [z2] at hH13
 refine RL.nil <| CW.seq <| SR <| V (fA underlying65 0 rfl sizeOf3 rfl) <| V (run_ld underlying3 rfl rfl (hH13.cell (i := 0) rfl (relC_N _))) <| vm (v := I 0) rfl <| RL.nil <| CW.block <| CW.loop (G := Int × Rl) (fun ⟨k, r1⟩ s' w' => (Fr (4 :: (rg 11 13 [])) _ s') ∧ (Hp w w' (.blk b11 (.cells (relC r1) 65 (0, 0)) :: _)) ∧ (s' 11 = I k) ∧ (0 ≤ k) ∧ (k ≤ pts r) ∧ (r1 = ⟨pts r, selfTo (plainR r).up k⟩)) (fun ⟨k, r1⟩ => (pts r - k).toNat) ((0, plainR r)) ⟨Fr.refl _ _, hH13, rfl, (by omega), (by omega), self_zero _ _⟩ <| ?_
 rintro ⟨k, r1⟩ sg14 w14 ⟨fr14, hH14, e11_14, h0, hk, hr⟩
 have e2_14 := fr14.pp 2 rfl rfl
 have e3_14 := fr14.pp 3 rfl rfl
 have e10_14 := fr14.ii 10 rfl rfl
 have hn : r1.n = pts r := by rw [hr]
 refine SR <| V (run_lss e11_14 e10_14) <| RL.nil <| CW.seq <| CW.condP rfl (fun h16 => ?_) (fun h16 => ?_)
 ·refine CW.skip <| CW.seq <| CW.block <| SR <| vm e11_14 <| aI rfl <| RL.nil <| CW.region <| mI rfl <| mI rfl <| V (fA underlying65 1 rfl sizeOf63 e3_14) <| V (run_indexAddrA underlying63 sizeOf31 rfl rfl (by omega)) <| V (run_ld underlying31 rfl rfl (hH14.cell (i := 0) rfl (relC_up _ (by omega)))) <| mI rfl <| RL.callP rfl hH14 (c_mask_With _ _  _) (run_call2 call96 rfl rfl) <| fun w17 hH18 => V (fA underlying65 1 rfl sizeOf63 e3_14) <| V (run_indexAddrA underlying63 sizeOf31 rfl rfl (by omega)) <| RL.set hH18 (i := 0) rfl (run_st rfl rfl (v := U _) rfl rfl rfl (hH18.blk (i := 0) rfl) (by rw [relC_size]; omega)) <| fun w19 hH20 => ?_
  simp only [z2] at hH20
  rw [relC_put] at hH20
  refine RL.nil <| CW.region <| V (run_add e11_14 rfl (by omega)) <| mI rfl <| RL.nil <| ?_
  refine ⟨(k + 1, _), ?_, fr14.u4.u4.u4.u1.u1, hH20, (congrArg I (by rfl)), ?_, ?_, ?_⟩
  ·((try dsimp only); omega)
  ·omega
  ·omega
  ·rw [hr]; exact self_put h0
 ·refine CW.exit (id := 0) rfl <| CW.seq <| SR <| V (fA underlying65 0 rfl sizeOf3 e3_14) <| V (run_ld underlying3 rfl rfl (hH14.cell (i := 0) rfl (relC_N _))) <| vm (v := I 0) rfl <| RL.nil <| CW.block <| CW.loop (G := Int × Rl) (fun ⟨m, r2⟩ s' w' => (Fr (5 :: 6 :: (rg 26 27 [])) _ s') ∧ (Hp w w' (.blk b11 (.cells (relC r2) 65 (0, 0)) :: _)) ∧ (s' 26 = I m) ∧ (0 ≤ m) ∧ (m ≤ pts r) ∧ (r2 = ⟨pts r, wall (pts r) (selfTo (plainR r).up (pts r)) m.toNat⟩)) (fun ⟨m, r2⟩ => (pts r - m).toNat) ((0, r1)) ⟨Fr.refl _ _, hH14, rfl, (by omega), (by omega), (by rw [hr, show k = pts r by omega]; rfl)⟩ <| ?_
  rintro ⟨m, r2⟩ sg21 w21 ⟨fr21, hH21, e26_21, m0, m1, hr2⟩
  have e2_21 := (fr21 2 rfl).trans e2_14
  have e3_21 := (fr21 3 rfl).trans e3_14
  have e25_21 := fr21.ii 25 rfl rfl
  have hn2 : r2.n = pts r := by rw [hr2]
  refine SR <| V (run_lss e26_21 e25_21) <| RL.nil <| CW.seq <| CW.condP rfl (fun h23 => ?_) (fun h23 => ?_)
  ·refine CW.skip <| CW.seq <| CW.block <| SR <| vm e26_21 <| aI rfl <| RL.nil <| SR <| V (fA underlying65 0 rfl sizeOf3 e3_21) <| V (run_ld underlying3 rfl rfl (hH21.cell (i := 0) rfl (relC_N _))) <| vm (v := I 0) rfl <| RL.nil <| CW.block <| CW.loop (G := Int × Rl) (fun ⟨i, r3⟩ s' w' => (Fr (6 :: (rg 31 21 [])) _ s') ∧ (Hp w w' (.blk b11 (.cells (relC r3) 65 (0, 0)) :: _)) ∧ (s' 31 = I i) ∧ (0 ≤ i) ∧ (i ≤ pts r) ∧ (r3 = ⟨pts r, passTo m.toNat i r2.up⟩)) (fun ⟨i, r3⟩ => (pts r - i).toNat) ((0, r2)) ⟨Fr.refl _ _, hH21, rfl, (by omega), (by omega), (by rw [hr2]; exact pass_zero _ _ _)⟩ <| ?_
   rintro ⟨i, r3⟩ sg24 w24 ⟨fr24, hH24, e31_24, i0, i1, hr3⟩
   have e3_24 := (fr24 3 rfl).trans e3_21
   have e5_24 := fr24.ii 5 rfl rfl
   have e26_24 := (fr24 26 rfl).trans e26_21
   have e30_24 := fr24.ii 30 rfl rfl
   have hn3 : r3.n = pts r := by rw [hr3]
   refine SR <| V (run_lss e31_24 e30_24) <| RL.nil <| CW.seq <| CW.condP rfl (fun h26 => ?_) (fun h26 => ?_)
   ·refine CW.skip <| CW.seq <| CW.block <| SR <| vm e31_24 <| aI rfl <| RL.nil <| SR <| mI rfl <| V (fA underlying65 1 rfl sizeOf63 e3_24) <| V (run_indexAddrA underlying63 sizeOf31 rfl rfl (by omega)) <| V (run_ld underlying31 rfl rfl (hH24.cell (i := 0) rfl (relC_up _ (by omega)))) <| vm e5_24 <| RL.callP rfl hH24 (c_mask_Has _ _  _) (run_call2 call98 rfl rfl) <| fun w27 hH28 => RL.nil <| CW.cond rfl (fun h30 => ?_) (fun h30 => ?_)
    ·refine CW.regionS (by kernel_rfl) hH28 (sQ sR) <| fun w31 hH32 => have zh32 := hH32.sub (sQ sR); AQ 0 rfl zh32 (mV (I _) rfl) <| AQ 1 rfl zh32 (fA underlying65 1 rfl sizeOf63 e3_24) <| AQ 2 rfl zh32 (run_indexAddrA underlying63 sizeOf31 rfl rfl (by omega)) <| AQ 4 rfl zh32 (run_move e5_24) <| AQ 5 rfl zh32 (fA underlying65 1 rfl sizeOf63 e3_24) <| AQ 6 rfl zh32 (run_indexAddrA underlying63 sizeOf31 rfl rfl (by omega)) <| AQ 9 rfl zh32 (fA underlying65 1 rfl sizeOf63 e3_24) <| AN.two 3 7 (by kernel_rfl) ?_ ?_
     ·refine AO.read rfl gnone rfl hH32 (sQ sR) (run_ld underlying31 rfl rfl (hH32.cell (i := 0) rfl (relC_up _ (by omega)))) <| A1 7 <| AO.read rfl gnone rfl hH32 (sQ sR) (run_ld underlying31 rfl rfl (hH32.cell (i := 0) rfl (relC_up _ (by omega)))) <| AQ 8 rfl zh32 (run_orU rfl rfl) <| AQ 10 rfl zh32 (run_indexAddrA underlying63 sizeOf31 rfl rfl (by omega)) <| A1 11 <| AO.set rfl gnone hH32 (j := 0) rfl (sQ sR) (run_st rfl rfl (v := U _) rfl rfl rfl (hH32.blk (i := 0) rfl) (by rw [relC_size]; omega)) <| fun w39 hH40 => ?_
      simp only [z2] at hH40
      rw [relC_put] at hH40
      refine AD <| CW.region <| V (run_add e31_24 rfl (by omega)) <| mI rfl <| RL.nil <| ?_
      refine ⟨(i + 1, _), ?_, fr24.u4.u4.u4.u4.u4.u1.u1, hH40, (congrArg I (by rfl)), ?_, ?_, ?_⟩
      ·((try dsimp only); omega)
      ·omega
      ·omega
      ·(rw [hr3] at *; exact pass_yes m0 i0 ‹_›)
     ·refine AO.read rfl gnone rfl hH32 (sQ sR) (run_ld underlying31 rfl rfl (hH32.cell (i := 0) rfl (relC_up _ (by omega)))) <| A1 3 <| AO.read rfl gnone rfl hH32 (sQ sR) (run_ld underlying31 rfl rfl (hH32.cell (i := 0) rfl (relC_up _ (by omega)))) <| AQ 8 rfl zh32 (run_orU rfl rfl) <| AQ 10 rfl zh32 (run_indexAddrA underlying63 sizeOf31 rfl rfl (by omega)) <| A1 11 <| AO.set rfl gnone hH32 (j := 0) rfl (sQ sR) (run_st rfl rfl (v := U _) rfl rfl rfl (hH32.blk (i := 0) rfl) (by rw [relC_size]; omega)) <| fun w47 hH48 => ?_
      simp only [z2] at hH48
      rw [relC_put] at hH48
      refine AD <| CW.region <| V (run_add e31_24 rfl (by omega)) <| mI rfl <| RL.nil <| ?_
      refine ⟨(i + 1, _), ?_, fr24.u4.u4.u4.u4.u4.u1.u1, hH48, (congrArg I (by rfl)), ?_, ?_, ?_⟩
      ·((try dsimp only); omega)
      ·omega
      ·omega
      ·(rw [hr3] at *; exact pass_yes m0 i0 ‹_›)
    ·refine CW.skip <| CW.region <| V (run_add e31_24 rfl (by omega)) <| mI rfl <| RL.nil <| ?_
     refine ⟨(i + 1, _), ?_, fr24.u4.u4.u1.u1.u1, hH28, (congrArg I (by rfl)), ?_, ?_, ?_⟩
     ·((try dsimp only); omega)
     ·omega
     ·omega
     ·(rw [hr3] at *; exact pass_not ⟨m0, by omega⟩ i0 ‹_›)
   ·refine CW.exit (id := 4) rfl <| CW.region <| V (run_add e26_24 rfl (by omega)) <| mI rfl <| RL.nil <| ?_
    refine ⟨(m + 1, _), ?_, (((fr21.u4.u1.u1).t fr24 rfl)).u1.u1.u1, hH24, (congrArg I (by rfl)), ?_, ?_, ?_⟩
    ·((try dsimp only); omega)
    ·omega
    ·omega
    ·rw [hr3, hr2, show i = pts r by omega]; exact wall_next m0
  ·refine CW.exit (id := 2) rfl <| SR <| V (run_ldRel underlying65 rfl rfl e3_21 (hH21.blk (i := 0) rfl)) <| RL.set hH21 (i := 1) rfl (run_stRel rfl e2_21 rfl (hH21.blk (i := 1) rfl)) <| fun w49 hH50 => ?_
   simp only [z2] at hH50
   refine RL.nil <| CW.ret <| outC Tryd.results90 e2_21 hH50 (i := 1) rfl underlying65 rfl rfl ⟨?_, hH50.below⟩
   (rw [hr2, show m = pts r by omega]; rfl)
theorem c_relate_Same (a b : Rl) (w : World) : Calls Tryd.prog 65 #[.agg (relC a), .agg (relC b)] w (Pure (B (decide ((plainR a).eq (plainR b)))) w) := by
 refine enter Tryd.func65 rfl Tryd.ntmps65 rfl <| have hH := Hp.start w; SR <| RL.new rfl hH (f := fun b => (.pointer (some ⟨b, 0, none⟩))) (run_box (v := .agg _) rfl) <| fun b3 w1 hH2 => RL.new rfl hH2 (f := fun b => (.pointer (some ⟨b, 0, none⟩))) (run_box (v := .agg _) rfl) <| fun b6 w4 hH5 => va (v := B false) rfl <| RL.nil <| CW.seq <| CW.regionD (by kernel_rfl) hH5 <| fun w7 hH8 => AT 0 rfl (hH8.sub sR) (fun w hS => run_ldRel underlying65 rfl rfl rfl (hS.blk (i := 1) rfl)) <| AT 2 rfl (hH8.sub sR) (fun w hS => run_ldRel underlying65 rfl rfl rfl (hS.blk (i := 0) rfl)) <| A1 1 <| AO.callP rfl gnone rfl hH8 sR (c_relate_plain _  _) (run_call1 call74 rfl) <| fun w9 hH10 => A1 3 <| AO.callP rfl gnone rfl hH10 sR (c_relate_plain _  _) (run_call1 call74 rfl) <| fun w11 hH12 => AQ 4 rfl (hH12.sub sR) (run_eqlRel relT_fact rfl rfl) <| AQ 5 rfl (hH12.sub sR) (aV (B _) rfl) <| AD <| CW.ret <| outP1 Tryd.results65 (congrArg B ?_) hH12.below
 rfl
theorem c_relate_Closed (r : Rl) (w : World) : Calls Tryd.prog 75 #[.agg (relC r)] w (Pure (B (decide ((plainR r).eq (cloR r)))) w) := by
 refine enter Tryd.func75 rfl Tryd.ntmps75 rfl <| have hH := Hp.start w; SR <| RL.new rfl hH (f := fun b => (.pointer (some ⟨b, 0, none⟩))) (run_box (v := .agg _) rfl) <| fun b3 w1 hH2 => va (v := B false) rfl <| RL.nil <| CW.seq <| CW.regionD (by kernel_rfl) hH2 <| fun w4 hH5 => AT 0 rfl (hH5.sub sR) (fun w hS => run_ldRel underlying65 rfl rfl rfl (hS.blk (i := 0) rfl)) <| AT 2 rfl (hH5.sub sR) (fun w hS => run_ldRel underlying65 rfl rfl rfl (hS.blk (i := 0) rfl)) <| A1 1 <| AO.callP rfl gnone rfl hH5 sR (c_relate_plain _  _) (run_call1 call74 rfl) <| fun w6 hH7 => A1 3 <| AO.callP rfl gnone rfl hH7 sR (c_relate_Closure _  _) (run_call1 call90 rfl) <| fun w8 hH9 => AQ 4 rfl (hH9.sub sR) (run_eqlRel relT_fact rfl rfl) <| AQ 5 rfl (hH9.sub sR) (aV (B _) rfl) <| AD <| CW.ret <| outP1 Tryd.results75 (congrArg B ?_) hH9.below
 rfl
theorem c_relate_New (n : Int) (w : World) : Calls Tryd.prog 71 #[I n] w (Pure (.agg (relC (newR n))) w) := by
 refine enter Tryd.func71 rfl Tryd.ntmps71 rfl <| have hH := Hp.start w; SR <| RL.new rfl hH (f := fun b => (.pointer (some ⟨b, 0, none⟩))) (run_alloc zero_rel) <| fun b3 w1 hH2 => RL.nil <| SR <| mI rfl <| V (run_bld (vs := [(0, I _)]) rfl (built_rel _)) <| RL.callP rfl hH2 (c_relate_points _  _) (run_call1 call87 rfl) <| fun w4 hH5 => V (run_bld (vs := [(0, I _)]) rfl (built_rel _)) <| RL.set hH5 (i := 0) rfl (run_stRel rfl rfl rfl (hH5.blk (i := 0) rfl)) <| fun w6 hH7 => ?_
 simp only [z2] at hH7
 refine RL.nil <| CW.ret <| outC Tryd.results71 rfl hH7 (i := 0) rfl underlying65 rfl rfl ⟨?_, hH7.below⟩
 rfl
theorem c_relate_mutual (r : Rl) (i : Int) (w : World) (hT : Tab w) : Calls Tryd.prog 91 #[.agg (relC r), I i] w (Pure (U (mutualR r i)) w) := by
 refine enter Tryd.func91 rfl Tryd.ntmps91 rfl <| have hH := Hp.start w; SR <| RL.new rfl hH (f := fun b => (.pointer (some ⟨b, 0, none⟩))) (run_box (v := .agg _) rfl) <| fun b3 w1 hH2 => va (v := U 0#64) rfl <| RL.nil <| SR <| mI rfl <| RL.new rfl hH2 (f := fun b => (.slice (some ⟨b, 0, none⟩) 1 1)) (run_mkL underlying133 rfl rfl (sz := 1) (vs := [I _]) rfl rfl (by decide) (by decide) rfl rfl) <| fun b6 w4 hH5 => ?_
 (try simp only [clX] at hH5)
 refine RL.callP rfl hH5 (c_mask_Of _ [i] _ (hH5.slBlk (i := 0) (n := 1) (sz := 1) rfl rfl (by decide))) (run_call1 call84 rfl) <| fun w7 hH8 => aU rfl <| RL.nil <| CW.seq <| CW.regionD (by kernel_rfl) hH8 <| fun w9 hH10 => have zh10 := hH10.sub sR; AT 0 rfl zh10 (fun w hS => run_ldRel underlying65 rfl rfl rfl (hS.blk (i := 1) rfl)) <| AQ 1 rfl zh10 (mV (U _) rfl) <| AT 3 rfl zh10 (fun w hS => run_ldRel underlying65 rfl rfl rfl (hS.blk (i := 1) rfl)) <| AQ 4 rfl zh10 (mV (U _) rfl) <| A1 2 <| AO.callP rfl gnone rfl hH10 sR (c_relate_Up _ _  _ (hT.hp hH10)) (run_call2 call83 rfl rfl) <| fun w11 hH12 => A1 5 <| AO.callP rfl gnone rfl hH12 sR (c_relate_Down _ _  _) (run_call2 call85 rfl rfl) <| fun w13 hH14 => AQ 6 rfl (hH14.sub sR) (run_andU rfl rfl) <| AQ 7 rfl (hH14.sub sR) (aV (U _) rfl) <| AD <| CW.ret <| outP1 Tryd.results91 (congrArg U ?_) hH14.below
 rfl
theorem c_relate_Order (r : Rl) (w : World) (hT : Tab w) : Calls Tryd.prog 76 #[.agg (relC r)] w (Pure (B (orderB r)) w) := by
 have hp := pts_bd r
 refine enter Tryd.func76 rfl Tryd.ntmps76 rfl <| have hH := Hp.start w; SR <| RL.new rfl hH (f := fun b => (.pointer (some ⟨b, 0, none⟩))) (run_box (v := .agg _) rfl) <| fun b3 w1 hH2 => va (v := B false) rfl <| RL.nil <| CW.seq <| SR <| V (run_ldRel underlying65 rfl rfl rfl (hH2.blk (i := 0) rfl)) <| RL.callP rfl hH2 (c_relate_Closed _  _) (run_call1 call75 rfl) <| fun w4 hH5 => V (run_notP rfl) <| RL.nil <| CW.condP rfl (fun h9 => ?_) (fun h9 => ?_)
 ·refine SR <| va (v := B false) rfl <| RL.nil <| CW.ret <| outP1 Tryd.results76 (congrArg B ?_) hH5.below
  exact (order_no0 ‹_›).symm
 ·refine CW.skip <| CW.seq <| SR <| V (run_ldRel underlying65 rfl rfl rfl (hH5.blk (i := 0) rfl)) <| RL.callP rfl hH5 (c_relate_points _  _) (run_call1 call87 rfl) <| fun w10 hH11 => vm (v := I 0) rfl <| RL.nil <| CW.block <| have hc := Decidable.of_not_not ‹¬ ¬ (plainR r).eq (cloR r)›; CW.loop (G := Int) (fun k s' w' => (Fr (2 :: 3 :: (rg 9 11 [])) _ s') ∧ (Hp w w' _) ∧ (s' 9 = I k) ∧ (0 ≤ k) ∧ (k ≤ pts r) ∧ (∀ j : Int, 0 ≤ j → j < k → mutualR r j = ofl [j])) (fun k => (pts r - k).toNat) (0) ⟨Fr.refl _ _, hH11, rfl, (by omega), (by omega), fun j a b => absurd b (by omega)⟩ <| ?_
  rintro k sg12 w12 ⟨fr12, hH12, e9_12, h0, hk, hf⟩
  have e1_12 := fr12.pp 1 rfl rfl
  have e8_12 := fr12.ii 8 rfl rfl
  refine SR <| V (run_lss e9_12 e8_12) <| RL.nil <| CW.seq <| CW.condP rfl (fun h14 => ?_) (fun h14 => ?_)
  ·refine CW.skip <| CW.seq <| CW.block <| SR <| vm e9_12 <| aI rfl <| RL.nil <| SR <| V (run_ldRel underlying65 rfl rfl e1_12 (hH12.blk (i := 0) rfl)) <| mI rfl <| RL.callP rfl hH12 (c_relate_mutual _ _  _ (hT.hp hH12)) (run_call2 call91 rfl rfl) <| fun w15 hH16 => mI rfl <| RL.new rfl hH16 (f := fun b => (.slice (some ⟨b, 0, none⟩) 1 1)) (run_mkL underlying133 rfl rfl (sz := 1) (vs := [I _]) rfl rfl (by decide) (by decide) rfl rfl) <| fun b19 w17 hH18 => ?_
   (try simp only [clX] at hH18)
   refine RL.callP rfl hH18 (c_mask_Of _ [k] _ (hH18.slBlk (i := 0) (n := 1) (sz := 1) rfl rfl (by decide))) (run_call1 call84 rfl) <| fun w20 hH21 => V (run_neqU rfl rfl) <| RL.nil <| CW.condP rfl (fun h23 => ?_) (fun h23 => ?_)
   ·refine SR <| va (v := B false) rfl <| RL.nil <| CW.ret <| outP1 Tryd.results76 (congrArg B ?_) hH21.below
    exact (order_no hc ⟨h0, by omega⟩ ‹_›).symm
   ·refine CW.skip <| CW.region <| V (run_add e9_12 rfl (by omega)) <| mI rfl <| RL.nil <| ?_
    refine ⟨k + 1, ?_, fr12.u4.u4.u4, (hH21.sub (sQ sR)), (congrArg I (by rfl)), ?_, ?_, ?_⟩
    ·((try dsimp only); omega)
    ·omega
    ·omega
    ·exact fun j a b => if e : j = k then e ▸ Decidable.of_not_not ‹_› else hf j a (by omega)
  ·refine CW.exit (id := 0) rfl <| SR <| va (v := B true) rfl <| RL.nil <| CW.ret <| outP1 Tryd.results76 (congrArg B ?_) hH12.below
   exact (order_yes hc fun j a b => hf j a (by omega)).symm
theorem c_hasse_in (r : Rl) (i : Int) (w : World) : Calls Tryd.prog 97 #[.agg (relC r), I i] w (Pure (B (isP r i)) w) := by
 have hp := pts_bd r
 have hnn : (newR r.n).n = pts r := rfl
 refine enter Tryd.func97 rfl Tryd.ntmps97 rfl <| have hH := Hp.start w; SR <| RL.new rfl hH (f := fun b => (.pointer (some ⟨b, 0, none⟩))) (run_box (v := .agg _) rfl) <| fun b3 w1 hH2 => va (v := B false) rfl <| RL.nil <| SR <| mI rfl <| V (run_geq rfl rfl) <| mB rfl <| RL.splitP (dj := 7) rfl (fun h5 => ?_) (fun h5 => ?_)
 ·refine gT rfl (bT h5) <| mI rfl <| gT rfl (bT h5) <| V (fA underlying65 0 rfl sizeOf3 rfl) <| gT rfl (bT h5) <| V (run_ld underlying3 rfl rfl (hH2.cell (i := 0) rfl (relC_N _))) <| gT rfl (bT h5) <| RL.callP rfl hH2 (c_relate_New _  _) (run_call1 call71 rfl) <| fun w6 hH7 => gT rfl (bT h5) <| V (run_field underlying65 rfl isAgg3 rfl (relC_N _)) <| gT rfl (bT h5) <| V (run_lss rfl rfl) <| V (run_pickT (bT h5) (v := B _) rfl) <| aB rfl <| RL.nil <| CW.ret <| outP1 Tryd.results97 (congrArg B ?_) hH7.below
  (rw [isP, Bool.eq_iff_iff]; simp only [decide_eq_true_eq, Bool.false_eq_true, false_iff]; omega)
 ·refine gF rfl (bF h5) <| gF rfl (bF h5) <| gF rfl (bF h5) <| gF rfl (bF h5) <| gF rfl (bF h5) <| gF rfl (bF h5) <| V (run_pickF (bF h5) (v := B false) rfl) <| aB rfl <| RL.nil <| CW.ret <| outP1 Tryd.results97 (congrArg B ?_) hH2.below
  (rw [isP, Bool.eq_iff_iff]; simp only [decide_eq_true_eq, Bool.false_eq_true, false_iff]; omega)
theorem c_hasse_above (r : Rl) (i : Int) (w : World) (hT : Tab w) : Calls Tryd.prog 93 #[.agg (relC r), I i] w (Pure (U (aboveR r i)) w) := by
 refine enter Tryd.func93 rfl Tryd.ntmps93 rfl <| have hH := Hp.start w; SR <| RL.new rfl hH (f := fun b => (.pointer (some ⟨b, 0, none⟩))) (run_box (v := .agg _) rfl) <| fun b3 w1 hH2 => va (v := U 0#64) rfl <| RL.nil <| CW.seq <| CW.regionD (by kernel_rfl) hH2 <| fun w4 hH5 => AT 0 rfl (hH5.sub sR) (fun w hS => run_ldRel underlying65 rfl rfl rfl (hS.blk (i := 0) rfl)) <| AQ 1 rfl (hH5.sub sR) (mV (I _) rfl) <| A1 2 <| AO.new rfl gnone rfl hH5 sR (f := fun b => .slice (some ⟨b, 0, none⟩) 1 1) (run_mkL underlying133 rfl rfl (sz := 1) (vs := [I _]) rfl rfl (by decide) (by decide) rfl rfl) <| fun b8 w6 hH7 => ?_
 (try simp only [clX] at hH7)
 refine A1 3 <| AO.callP rfl gnone rfl hH7 (sQ sR) (c_mask_Of _ [i] _ (hH7.slBlk (i := 0) (n := 1) (sz := 1) rfl rfl (by decide))) (run_call1 call84 rfl) <| fun w9 hH10 => A1 4 <| AO.callP rfl gnone rfl hH10 (sQ sR) (c_relate_Up _ _  _ (hT.hp hH10)) (run_call2 call83 rfl rfl) <| fun w11 hH12 => AQ 5 rfl (hH12.sub (sQ sR)) (aV (U _) rfl) <| AD <| CW.ret <| outP1 Tryd.results93 (congrArg U ?_) hH12.below
 rfl
theorem c_hasse_below (r : Rl) (i : Int) (w : World) (hT : Tab w) : Calls Tryd.prog 88 #[.agg (relC r), I i] w (Pure (U (belowR r i)) w) := by
 refine enter Tryd.func88 rfl Tryd.ntmps88 rfl <| have hH := Hp.start w; SR <| RL.new rfl hH (f := fun b => (.pointer (some ⟨b, 0, none⟩))) (run_box (v := .agg _) rfl) <| fun b3 w1 hH2 => va (v := U 0#64) rfl <| RL.nil <| CW.seq <| SR <| V (run_ldRel underlying65 rfl rfl rfl (hH2.blk (i := 0) rfl)) <| mI rfl <| RL.callP rfl hH2 (c_hasse_in _ _  _) (run_call2 call97 rfl rfl) <| fun w4 hH5 => V (run_not rfl) <| RL.nil <| CW.cond rfl (fun h8 => ?_) (fun h8 => ?_)
 ·refine SR <| va (v := U 0#64) rfl <| RL.nil <| CW.ret <| outP1 Tryd.results88 (congrArg U ?_) hH5.below
  rw [belowR, if_neg (by simpa using ‹(!isP r i) = true›)]
 ·refine CW.skip <| CW.seq <| CW.regionD (by kernel_rfl) hH5 <| fun w9 hH10 => AT 0 rfl (hH10.sub sR) (fun w hS => run_ldRel underlying65 rfl rfl rfl (hS.blk (i := 0) rfl)) <| AQ 1 rfl (hH10.sub sR) (mV (I _) rfl) <| A1 2 <| AO.new rfl gnone rfl hH10 sR (f := fun b => .slice (some ⟨b, 0, none⟩) 1 1) (run_mkL underlying133 rfl rfl (sz := 1) (vs := [I _]) rfl rfl (by decide) (by decide) rfl rfl) <| fun b13 w11 hH12 => ?_
  (try simp only [clX] at hH12)
  refine A1 3 <| AO.callP rfl gnone rfl hH12 (sQ sR) (c_mask_Of _ [i] _ (hH12.slBlk (i := 0) (n := 1) (sz := 1) rfl rfl (by decide))) (run_call1 call84 rfl) <| fun w14 hH15 => A1 4 <| AO.callP rfl gnone rfl hH15 (sQ sR) (c_relate_Down _ _  _) (run_call2 call85 rfl rfl) <| fun w16 hH17 => AQ 5 rfl (hH17.sub (sQ sR)) (aV (U _) rfl) <| AD <| CW.ret <| outP1 Tryd.results88 (congrArg U ?_) hH17.below
  rw [belowR, if_pos (by simpa using ‹(!isP r i) = false›)]
theorem c_hasse_nearest (r : Rl) (i j : Int) (f : FuncId) (gg : Int → BitVec 64) (w : World) (hf : ∀ args w, (callFunc f args).run Tryd.prog w = .ok (.enter f args) w) (go : ∀ i w, Tab w → Calls Tryd.prog f #[.agg (relC r), I i] w (Pure (U (gg i)) w)) (hn : ∀ u, hasB (gg i &&& gg j) u = true → u < pts r) (hT : Tab w) : Calls Tryd.prog 92 #[.agg (relC r), I i, I j, .func (.func f) #[] #[]] w (Pure (.tuple #[I (nearV gg (pts r) i j).1, B (nearV gg (pts r) i j).2]) w) := by
 have hl := lst_len (gg i &&& gg j)
 refine enter Tryd.func92 rfl Tryd.ntmps92 rfl <| have hH := Hp.start w; SR <| RL.new rfl hH (f := fun b => (.pointer (some ⟨b, 0, none⟩))) (run_box (v := .agg _) rfl) <| fun b3 w1 hH2 => va (v := I 0) rfl <| va (v := B false) rfl <| RL.nil <| CW.seq <| CW.regionD (by kernel_rfl) hH2 <| fun w4 hH5 => have zh5 := hH5.sub sR; AQ 0 rfl zh5 (mV (.func _ _ _) rfl) <| AT 1 rfl zh5 (fun w hS => run_ldRel underlying65 rfl rfl rfl (hS.blk (i := 0) rfl)) <| AQ 2 rfl zh5 (mV (I _) rfl) <| AQ 4 rfl zh5 (mV (.func _ _ _) rfl) <| AT 5 rfl zh5 (fun w hS => run_ldRel underlying65 rfl rfl rfl (hS.blk (i := 0) rfl)) <| AQ 6 rfl zh5 (mV (I _) rfl) <| A1 3 <| AO.callP rfl gnone rfl hH5 sR (go _ _ (hT.hp hH5)) (run_callC2 hf (cs := []) rfl rfl rfl) <| fun w6 hH7 => A1 7 <| AO.callP rfl gnone rfl hH7 sR (go _ _ (hT.hp hH7)) (run_callC2 hf (cs := []) rfl rfl rfl) <| fun w8 hH9 => AQ 8 rfl (hH9.sub sR) (run_andU rfl rfl) <| AQ 9 rfl (hH9.sub sR) (aV (U _) rfl) <| AD <| CW.seq <| SR <| mU rfl <| RL.callR rfl hH9 (c_mask_List _  _ (hT.hp hH9)) (run_call1 call82 rfl) <| fun v12 w10 hH11 => V (run_lenSl (hH11.sl (i := 0) rfl) rfl underlying133 rfl) <| vm (v := I 0) rfl <| RL.nil <| CW.block <| CW.loop (G := Int) (fun a s' w' => (Fr (8 :: 9 :: (12 :: (rg 25 12 []))) _ s') ∧ (Hp w w' _) ∧ (s' 25 = I a) ∧ (0 ≤ a) ∧ (a ≤ (lst (gg i &&& gg j)).length) ∧ (∀ b : Int, 0 ≤ b → b < a → subB (gg i &&& gg j) (gg ((lst (gg i &&& gg j)).getD b.toNat 0)) = false)) (fun a => ((lst (gg i &&& gg j)).length - a).toNat) (0) ⟨Fr.refl _ _, hH11, rfl, (by omega), (by omega), fun b x y => absurd y (by omega)⟩ <| ?_
 rintro a sg13 w13 ⟨fr13, hH13, e25_13, a0, a1, hg⟩
 have e3_13 := fr13.vv 3 (a := .func _ _ _) rfl rfl
 have e4_13 := fr13.pp 4 rfl rfl
 have e10_13 := fr13.uu 10 rfl rfl
 have e23_13 := (fr13 23 rfl).trans (by conv => lhs; whnf)
 have e24_13 := fr13.ii 24 rfl rfl
 refine SR <| V (run_lss e25_13 e24_13) <| RL.nil <| CW.seq <| CW.condP rfl (fun h15 => ?_) (fun h15 => ?_)
 ·refine CW.skip <| CW.seq <| CW.block <| SR <| V (run_indexAddrS (hH13.sl (i := 0) rfl) underlying133 sizeOf3 e23_13 e25_13 (by omega)) <| V (run_ld underlying3 rfl rfl ((hH13.sl (i := 0) rfl).cell _ _ (map_at (by omega)))) <| aI rfl <| RL.nil <| SR <| vm e10_13 <| vm e3_13 <| V (run_ldRel underlying65 rfl rfl e4_13 (hH13.blk (i := 1) rfl)) <| mI rfl <| RL.callP rfl hH13 (go _ _ (hT.hp hH13)) (run_callC2 hf (cs := []) rfl rfl rfl) <| fun w16 hH17 => RL.callP rfl hH17 (c_mask_Sub _ _  _) (run_call2 call53 rfl rfl) <| fun w18 hH19 => RL.nil <| CW.cond rfl (fun h21 => ?_) (fun h21 => ?_)
  ·refine SR <| mI rfl <| aI rfl <| va (v := B true) rfl <| RL.nil <| CW.ret <| ?_
   refine outP2 Tryd.results92 (congrArg I ?_) (congrArg B ?_) hH19.below <;> rw [near_yes hn a0 ‹_› ‹_› hg]
  ·refine CW.skip <| CW.region <| V (run_add e25_13 rfl (by omega)) <| mI rfl <| RL.nil <| ?_
   refine ⟨a + 1, ?_, fr13.u4.u4.u4, hH19, (congrArg I (by rfl)), ?_, ?_, ?_⟩
   ·((try dsimp only); omega)
   ·omega
   ·omega
   ·exact fun b x y => if e : b = a then e ▸ ‹_› else hg b x (by omega)
 ·refine CW.exit (id := 0) rfl <| SR <| va (v := I 0) rfl <| va (v := B false) rfl <| RL.nil <| CW.ret <| ?_
  refine outP2 Tryd.results92 (congrArg I ?_) (congrArg B ?_) hH13.below <;> rw [near_no ‹_› hg]
theorem c_hasse_Join (r : Rl) (i j : Int) (w : World) (hT : Tab w) : Calls Tryd.prog 77 #[.agg (relC r), I i, I j] w (Pure (.tuple #[I (joinV r i j).1, B (joinV r i j).2]) w) := by
 refine enter Tryd.func77 rfl Tryd.ntmps77 rfl <| have hH := Hp.start w; SR <| RL.new rfl hH (f := fun b => (.pointer (some ⟨b, 0, none⟩))) (run_box (v := .agg _) rfl) <| fun b3 w1 hH2 => va (v := I 0) rfl <| va (v := B false) rfl <| RL.nil <| SR <| V (run_ldRel underlying65 rfl rfl rfl (hH2.blk (i := 0) rfl)) <| mI rfl <| mI rfl <| RL.callP rfl hH2 (c_hasse_nearest r i j 93 (aboveR r) _ call93 (fun i w h => c_hasse_above r i w h) (fun u h => above_in h) (hT.hp hH2)) (run_call4 call92 rfl rfl rfl rfl) <| fun w4 hH5 => V (run_extract rfl (v := I _) rfl) <| V (run_extract rfl (v := B _) rfl) <| aI rfl <| aB rfl <| RL.nil <| CW.ret <| outP2 Tryd.results77 (congrArg I ?_) (congrArg B ?_) hH5.below
 all_goals rfl
theorem c_hasse_Meet (r : Rl) (i j : Int) (w : World) (hT : Tab w) : Calls Tryd.prog 78 #[.agg (relC r), I i, I j] w (Pure (.tuple #[I (meetV r i j).1, B (meetV r i j).2]) w) := by
 refine enter Tryd.func78 rfl Tryd.ntmps78 rfl <| have hH := Hp.start w; SR <| RL.new rfl hH (f := fun b => (.pointer (some ⟨b, 0, none⟩))) (run_box (v := .agg _) rfl) <| fun b3 w1 hH2 => va (v := I 0) rfl <| va (v := B false) rfl <| RL.nil <| SR <| V (run_ldRel underlying65 rfl rfl rfl (hH2.blk (i := 0) rfl)) <| mI rfl <| mI rfl <| RL.callP rfl hH2 (c_hasse_nearest r i j 88 (belowR r) _ call88 (fun i w h => c_hasse_below r i w h) (fun u h => below_inR h) (hT.hp hH2)) (run_call4 call92 rfl rfl rfl rfl) <| fun w4 hH5 => V (run_extract rfl (v := I _) rfl) <| V (run_extract rfl (v := B _) rfl) <| aI rfl <| aB rfl <| RL.nil <| CW.ret <| outP2 Tryd.results78 (congrArg I ?_) (congrArg B ?_) hH5.below
 all_goals rfl
theorem c_hasse_Word (r : Rl) (i : Int) (w : World) (hT : Tab w) : Calls Tryd.prog 72 #[.agg (relC r), I i] w (Pure (U (belowR r i)) w) := by
 refine enter Tryd.func72 rfl Tryd.ntmps72 rfl <| have hH := Hp.start w; SR <| RL.new rfl hH (f := fun b => (.pointer (some ⟨b, 0, none⟩))) (run_box (v := .agg _) rfl) <| fun b3 w1 hH2 => va (v := U 0#64) rfl <| RL.nil <| SR <| V (run_ldRel underlying65 rfl rfl rfl (hH2.blk (i := 0) rfl)) <| mI rfl <| RL.callP rfl hH2 (c_hasse_below _ _  _ (hT.hp hH2)) (run_call2 call88 rfl rfl) <| fun w4 hH5 => aU rfl <| RL.nil <| CW.ret <| outP1 Tryd.results72 (congrArg U ?_) hH5.below
 rfl
theorem c_hasse_Point (r : Rl) (s : BitVec 64) (w : World) (hT : Tab w) : Calls Tryd.prog 62 #[.agg (relC r), U s] w (Pure (.tuple #[I (pointV r s).1, B (pointV r s).2]) w) := by
 have hp := pts_bd r
 have hnn : (newR r.n).n = pts r := rfl
 refine enter Tryd.func62 rfl Tryd.ntmps62 rfl <| have hH := Hp.start w; SR <| RL.new rfl hH (f := fun b => (.pointer (some ⟨b, 0, none⟩))) (run_box (v := .agg _) rfl) <| fun b3 w1 hH2 => va (v := I 0) rfl <| va (v := B false) rfl <| RL.nil <| CW.seq <| SR <| V (fA underlying65 0 rfl sizeOf3 rfl) <| V (run_ld underlying3 rfl rfl (hH2.cell (i := 0) rfl (relC_N _))) <| RL.callP rfl hH2 (c_relate_New _  _) (run_call1 call71 rfl) <| fun w4 hH5 => V (run_field underlying65 rfl isAgg3 rfl (relC_N _)) <| vm (v := I 0) rfl <| RL.nil <| CW.block <| CW.loop (G := Int) (fun k s' w' => (Fr (rg 4 3 (rg 11 10 [])) _ s') ∧ (Hp w w' _) ∧ (s' 11 = I k) ∧ (0 ≤ k) ∧ (k ≤ pts r) ∧ (∀ j : Int, 0 ≤ j → j < k → belowR r j ≠ s)) (fun k => (pts r - k).toNat) (0) ⟨Fr.refl _ _, hH5, rfl, (by omega), (by omega), fun j x y => absurd y (by omega)⟩ <| ?_
 rintro k sg6 w6 ⟨fr6, hH6, e11_6, h0, hk, hg⟩
 have e1_6 := fr6.uu 1 rfl rfl
 have e2_6 := fr6.pp 2 rfl rfl
 have e10_6 := fr6.ii 10 rfl rfl
 refine SR <| V (run_lss e11_6 e10_6) <| RL.nil <| CW.seq <| CW.condP rfl (fun h8 => ?_) (fun h8 => ?_)
 ·refine CW.skip <| CW.seq <| CW.block <| SR <| vm e11_6 <| aI rfl <| RL.nil <| SR <| V (run_ldRel underlying65 rfl rfl e2_6 (hH6.blk (i := 0) rfl)) <| mI rfl <| RL.callP rfl hH6 (c_hasse_Word _ _  _ (hT.hp hH6)) (run_call2 call72 rfl rfl) <| fun w9 hH10 => vm e1_6 <| V (run_eqlU rfl rfl) <| RL.nil <| CW.condP rfl (fun h12 => ?_) (fun h12 => ?_)
  ·refine SR <| mI rfl <| aI rfl <| va (v := B true) rfl <| RL.nil <| CW.ret <| ?_
   refine outP2 Tryd.results62 (congrArg I ?_) (congrArg B ?_) hH10.below <;> rw [point_yes h0 (by omega) ‹_› hg]
  ·refine CW.skip <| CW.region <| V (run_add e11_6 rfl (by omega)) <| mI rfl <| RL.nil <| ?_
   refine ⟨k + 1, ?_, fr6.u4.u4.u1.u1, hH10, (congrArg I (by rfl)), ?_, ?_, ?_⟩
   ·((try dsimp only); omega)
   ·omega
   ·omega
   ·exact fun j x y => if e : j = k then e ▸ ‹¬ belowR r k = s› else hg j x (by omega)
 ·refine CW.exit (id := 0) rfl <| SR <| va (v := I 0) rfl <| va (v := B false) rfl <| RL.nil <| CW.ret <| ?_
  refine outP2 Tryd.results62 (congrArg I ?_) (congrArg B ?_) hH6.below <;> rw [point_no (by omega) hg]
theorem c_hasse_Raise (r : Rl) (a b : BitVec 64) (w : World) (hT : Tab w) : Calls Tryd.prog 73 #[.agg (relC r), U a, U b] w (Pure (U (raiseV r a b)) w) := by
 refine enter Tryd.func73 rfl Tryd.ntmps73 rfl <| have hH := Hp.start w; SR <| RL.new rfl hH (f := fun b => (.pointer (some ⟨b, 0, none⟩))) (run_box (v := .agg _) rfl) <| fun b3 w1 hH2 => va (v := U 0#64) rfl <| RL.nil <| CW.seq <| SR <| V (run_ldRel underlying65 rfl rfl rfl (hH2.blk (i := 0) rfl)) <| mU rfl <| RL.callP rfl hH2 (c_hasse_Point _ _  _ (hT.hp hH2)) (run_call2 call62 rfl rfl) <| fun w4 hH5 => ?_
 refine V (run_move (by conv => lhs; whnf)) ?_
 refine V (run_extract rfl (v := I _) rfl) <| V (run_extract rfl (v := B _) rfl) <| aI rfl <| aB rfl <| RL.nil <| SR <| mB rfl <| RL.nil <| CW.cond rfl (fun h7 => ?_) (fun h7 => ?_)
 ·refine SR <| V (run_ldRel underlying65 rfl rfl rfl (hH5.blk (i := 0) rfl)) <| mU rfl <| RL.callP rfl hH5 (c_hasse_Point _ _  _ (hT.hp hH5)) (run_call2 call62 rfl rfl) <| fun w8 hH9 => ?_
  refine V (run_move (by conv => lhs; whnf)) ?_
  refine V (run_extract rfl (v := I _) rfl) <| V (run_extract rfl (v := B _) rfl) <| aI rfl <| aB rfl <| RL.nil <| SR <| mB rfl <| RL.nil <| CW.cond rfl (fun h11 => ?_) (fun h11 => ?_)
  ·refine SR <| V (run_ldRel underlying65 rfl rfl rfl (hH9.blk (i := 0) rfl)) <| mI rfl <| mI rfl <| RL.callP rfl hH9 (c_hasse_Join _ _ _  _ (hT.hp hH9)) (run_call3 call77 rfl rfl rfl) <| fun w12 hH13 => ?_
   refine V (run_move (by conv => lhs; whnf)) ?_
   refine V (run_extract rfl (v := I _) rfl) <| V (run_extract rfl (v := B _) rfl) <| aI rfl <| aB rfl <| RL.nil <| SR <| mB rfl <| RL.nil <| CW.cond rfl (fun h15 => ?_) (fun h15 => ?_)
   ·refine SR <| V (run_ldRel underlying65 rfl rfl rfl (hH13.blk (i := 0) rfl)) <| mI rfl <| RL.callP rfl hH13 (c_hasse_Word _ _  _ (hT.hp hH13)) (run_call2 call72 rfl rfl) <| fun w16 hH17 => aU rfl <| RL.nil <| CW.ret <| outP1 Tryd.results73 (congrArg U ?_) hH17.below
    rw [raise_yes ‹_› ‹_› ‹_›]
   ·refine CW.skip <| SR <| mU rfl <| mU rfl <| V (run_orU rfl rfl) <| aU rfl <| RL.nil <| CW.ret <| outP1 Tryd.results73 (congrArg U ?_) hH13.below
    rw [raise_no3 ‹_›]
  ·refine CW.skip <| SR <| mU rfl <| mU rfl <| V (run_orU rfl rfl) <| aU rfl <| RL.nil <| CW.ret <| outP1 Tryd.results73 (congrArg U ?_) hH9.below
   rw [raise_no2 ‹_›]
 ·refine CW.skip <| SR <| mU rfl <| mU rfl <| V (run_orU rfl rfl) <| aU rfl <| RL.nil <| CW.ret <| outP1 Tryd.results73 (congrArg U ?_) hH5.below
  rw [raise_no1 ‹_›]
theorem c_hasse_Lattice (r : Rl) (w : World) (hT : Tab w) : Calls Tryd.prog 67 #[.agg (relC r)] w (Pure (B (latB r)) w) := by
 have hp := pts_bd r
 refine enter Tryd.func67 rfl Tryd.ntmps67 rfl <| have hH := Hp.start w; SR <| RL.new rfl hH (f := fun b => (.pointer (some ⟨b, 0, none⟩))) (run_box (v := .agg _) rfl) <| fun b3 w1 hH2 => va (v := B false) rfl <| RL.nil <| CW.seq <| SR <| V (fA underlying65 0 rfl sizeOf3 rfl) <| V (run_ld underlying3 rfl rfl (hH2.cell (i := 0) rfl (relC_N _))) <| V (run_lss rfl rfl) <| mB rfl <| RL.splitP (dj := 12) rfl (fun h5 => ?_) (fun h5 => ?_)
 ·refine gF rfl (bT h5) <| gF rfl (bT h5) <| gF rfl (bT h5) <| V (run_pickT (bT h5) (v := B true) rfl) <| mB rfl <| gF rfl rfl <| gF rfl rfl <| gF rfl rfl <| V (run_pickT rfl (v := B true) rfl) <| RL.nil <| CW.condT rfl <| SR <| va (v := B false) rfl <| RL.nil <| CW.ret <| outP1 Tryd.results67 (congrArg B ?_) hH2.below
  exact (lat_no1 (by omega)).symm
 ·refine gT rfl (bF h5) <| V (fA underlying65 0 rfl sizeOf3 rfl) <| gT rfl (bF h5) <| V (run_ld underlying3 rfl rfl (hH2.cell (i := 0) rfl (relC_N _))) <| gT rfl (bF h5) <| V (run_gtr rfl rfl) <| V (run_pickF (bF h5) (v := B _) rfl) <| mB rfl <| RL.splitP (dj := 17) rfl (fun h7 => ?_) (fun h7 => ?_)
  ·refine gF rfl (bT h7) <| gF rfl (bT h7) <| gF rfl (bT h7) <| V (run_pickT (bT h7) (v := B true) rfl) <| RL.nil <| CW.condT rfl <| SR <| va (v := B false) rfl <| RL.nil <| CW.ret <| outP1 Tryd.results67 (congrArg B ?_) hH2.below
   exact (lat_no1 (by omega)).symm
  ·refine gT rfl (bF h7) <| V (run_ldRel underlying65 rfl rfl rfl (hH2.blk (i := 0) rfl)) <| gT rfl (bF h7) <| RL.callP rfl hH2 (c_relate_Order _  _ (hT.hp hH2)) (run_call1 call76 rfl) <| fun w8 hH9 => gT rfl (bF h7) <| V (run_not rfl) <| V (run_pickF (bF h7) (v := B _) rfl) <| RL.nil <| CW.cond rfl (fun h12 => ?_) (fun h12 => ?_)
   ·refine SR <| va (v := B false) rfl <| RL.nil <| CW.ret <| outP1 Tryd.results67 (congrArg B ?_) hH9.below
    exact (lat_no2 (nt ‹_›)).symm
   ·refine CW.skip <| CW.seq <| SR <| V (fA underlying65 0 rfl sizeOf3 rfl) <| V (run_ld underlying3 rfl rfl (hH9.cell (i := 0) rfl (relC_N _))) <| vm (v := I 0) rfl <| RL.nil <| CW.block <| have hn : 1 ≤ r.n ∧ r.n ≤ 64 := (by omega); have ho : orderB r = true := nf ‹_›; CW.loop (G := Int) (fun i s' w' => (Fr (rg 2 7 (rg 24 29 [])) _ s') ∧ (Hp w w' _) ∧ (s' 24 = I i) ∧ (0 ≤ i) ∧ (i ≤ r.n) ∧ (∀ a b : Int, 0 ≤ b → b < a → a < i → bothB r a b = true)) (fun i => (r.n - i).toNat) (0) ⟨Fr.refl _ _, hH9, rfl, (by omega), (by omega), fun a b x y z => absurd z (by omega)⟩ <| ?_
    rintro i sg13 w13 ⟨fr13, hH13, e24_13, i0, i1, hg⟩
    have e1_13 := fr13.pp 1 rfl rfl
    have e23_13 := fr13.ii 23 rfl rfl
    refine SR <| V (run_lss e24_13 e23_13) <| RL.nil <| CW.seq <| CW.condP rfl (fun h15 => ?_) (fun h15 => ?_)
    ·refine CW.skip <| CW.seq <| CW.block <| SR <| vm e24_13 <| aI rfl <| RL.nil <| SR <| mI rfl <| vm (v := I 0) rfl <| RL.nil <| CW.block <| CW.loop (G := Int) (fun j s' w' => (Fr (2 :: (rg 4 5 (rg 28 24 []))) _ s') ∧ (Hp w w' _) ∧ (s' 28 = I j) ∧ (0 ≤ j) ∧ (j ≤ i) ∧ (∀ b : Int, 0 ≤ b → b < j → bothB r i b = true)) (fun j => (i - j).toNat) (0) ⟨Fr.refl _ _, hH13, rfl, (by omega), (by omega), fun b x y => absurd y (by omega)⟩ <| ?_
     rintro j sg16 w16 ⟨fr16, hH16, e28_16, j0, j1, hh⟩
     have e1_16 := (fr16 1 rfl).trans e1_13
     have e3_16 := fr16.ii 3 rfl rfl
     have e24_16 := (fr16 24 rfl).trans e24_13
     have e27_16 := fr16.ii 27 rfl rfl
     refine SR <| V (run_lss e28_16 e27_16) <| RL.nil <| CW.seq <| CW.condP rfl (fun h18 => ?_) (fun h18 => ?_)
     ·refine CW.skip <| CW.seq <| CW.block <| SR <| vm e28_16 <| aI rfl <| RL.nil <| SR <| V (run_ldRel underlying65 rfl rfl e1_16 (hH16.blk (i := 0) rfl)) <| vm e3_16 <| mI rfl <| RL.callP rfl hH16 (c_hasse_Join _ _ _  _ (hT.hp hH16)) (run_call3 call77 rfl rfl rfl) <| fun w19 hH20 => ?_
      refine V (run_move (by conv => lhs; whnf)) ?_
      refine V (run_extract rfl (v := I _) rfl) <| V (run_extract rfl (v := B _) rfl) <| aI rfl <| aB rfl <| RL.nil <| SR <| V (run_ldRel underlying65 rfl rfl e1_16 (hH20.blk (i := 0) rfl)) <| vm e3_16 <| mI rfl <| RL.callP rfl hH20 (c_hasse_Meet _ _ _  _ (hT.hp hH20)) (run_call3 call78 rfl rfl rfl) <| fun w22 hH23 => ?_
      refine V (run_move (by conv => lhs; whnf)) ?_
      refine V (run_extract rfl (v := I _) rfl) <| V (run_extract rfl (v := B _) rfl) <| aI rfl <| aB rfl <| RL.nil <| SR <| mB rfl <| V (run_not rfl) <| mB rfl <| RL.split (dj := 47) rfl (fun h26 => ?_) (fun h26 => ?_)
      ·refine gF rfl (bR (c := true) h26) <| gF rfl (bR (c := true) h26) <| V (run_pickT (bR (c := true) h26) (v := B true) rfl) <| RL.nil <| CW.condT rfl <| SR <| va (v := B false) rfl <| RL.nil <| CW.ret <| outP1 Tryd.results67 (congrArg B ?_) hH23.below
       exact (lat_no3 ‹i < r.n› j0 ‹j < i› (by rw [bothB, nt ‹(!(joinV r i j).2) = true›]; rfl)).symm
      ·refine gT rfl (bR (c := false) h26) <| mB rfl <| gT rfl (bR (c := false) h26) <| V (run_not rfl) <| V (run_pickF (bR (c := false) h26) (v := B _) rfl) <| RL.nil <| CW.cond rfl (fun h28 => ?_) (fun h28 => ?_)
       ·refine SR <| va (v := B false) rfl <| RL.nil <| CW.ret <| outP1 Tryd.results67 (congrArg B ?_) hH23.below
        exact (lat_no3 ‹i < r.n› j0 ‹j < i› (by rw [bothB, nt ‹(!(meetV r i j).2) = true›]; simp)).symm
       ·refine CW.skip <| CW.region <| V (run_add e28_16 rfl (by omega)) <| mI rfl <| RL.nil <| ?_
        refine ⟨j + 1, ?_, fr16.u4.u4.u4.u4.u4.u4.u4.u1, hH23, (congrArg I (by rfl)), ?_, ?_, ?_⟩
        ·((try dsimp only); omega)
        ·omega
        ·omega
        ·exact fun b x y => if e : b = j then e ▸ (by rw [bothB, Bool.and_eq_true]; exact ⟨nf ‹(!(joinV r i j).2) = false›, nf ‹(!(meetV r i j).2) = false›⟩) else hh b x (by omega)
     ·refine CW.exit (id := 2) rfl <| CW.region <| V (run_add e24_16 rfl (by omega)) <| mI rfl <| RL.nil <| ?_
      refine ⟨i + 1, ?_, (((fr13.u4.u1).t fr16 rfl)).u1.u1.u1, hH16, (congrArg I (by rfl)), ?_, ?_, ?_⟩
      ·((try dsimp only); omega)
      ·omega
      ·omega
      ·exact fun a b x y z => if e : a = i then e ▸ hh b x (by omega) else hg a b x y (by omega)
    ·refine CW.exit (id := 0) rfl <| SR <| va (v := B true) rfl <| RL.nil <| CW.ret <| outP1 Tryd.results67 (congrArg B ?_) hH13.below
     exact (lat_yes hn ho ‹_› hg).symm
theorem c_grid_Right (r : Rl) (w : World) : Calls Tryd.prog 66 #[.agg (relC r)] w (Pure (B (rightG r)) w) := by
 refine enter Tryd.func66 rfl Tryd.ntmps66 rfl <| have hH := Hp.start w; SR <| RL.new rfl hH (f := fun b => (.pointer (some ⟨b, 0, none⟩))) (run_box (v := .agg _) rfl) <| fun b3 w1 hH2 => va (v := B false) rfl <| RL.nil <| SR <| V (fA underlying65 0 rfl sizeOf3 rfl) <| V (run_ld underlying3 rfl rfl (hH2.cell (i := 0) rfl (relC_N _))) <| V (run_geq rfl rfl) <| mB rfl <| RL.splitP (dj := 6) rfl (fun h5 => ?_) (fun h5 => ?_)
 ·refine gT rfl (bT h5) <| V (fA underlying65 0 rfl sizeOf3 rfl) <| gT rfl (bT h5) <| V (run_ld underlying3 rfl rfl (hH2.cell (i := 0) rfl (relC_N _))) <| gT rfl (bT h5) <| V (run_leq rfl rfl) <| V (run_pickT (bT h5) (v := B _) rfl) <| mB rfl <| RL.splitP (dj := 11) rfl (fun h7 => ?_) (fun h7 => ?_)
  ·refine gT rfl (bT h7) <| V (run_ldRel underlying65 rfl rfl rfl (hH2.blk (i := 0) rfl)) <| gT rfl (bT h7) <| RL.callP rfl hH2 (c_relate_Closed _  _) (run_call1 call75 rfl) <| fun w8 hH9 => V (run_pickT (bT h7) (v := B _) rfl) <| aB rfl <| RL.nil <| CW.ret <| outP1 Tryd.results66 (congrArg B ?_) hH9.below
   rw [rightG, decide_eq_true (show 1 ≤ r.n ∧ r.n ≤ 8 by omega), Bool.true_and]
  ·refine gF rfl (bF h7) <| gF rfl (bF h7) <| V (run_pickF (bF h7) (v := B false) rfl) <| aB rfl <| RL.nil <| CW.ret <| outP1 Tryd.results66 (congrArg B ?_) hH2.below
   rw [rightG, decide_eq_false (show ¬ (1 ≤ r.n ∧ r.n ≤ 8) by omega), Bool.false_and]
 ·refine gF rfl (bF h5) <| gF rfl (bF h5) <| gF rfl (bF h5) <| V (run_pickF (bF h5) (v := B false) rfl) <| mB rfl <| gF rfl rfl <| gF rfl rfl <| V (run_pickF rfl (v := B false) rfl) <| aB rfl <| RL.nil <| CW.ret <| outP1 Tryd.results66 (congrArg B ?_) hH2.below
  rw [rightG, decide_eq_false (show ¬ (1 ≤ r.n ∧ r.n ≤ 8) by omega), Bool.false_and]
theorem c_grid_row (r : Rl) (s : BitVec 64) (o : Int) (ho : 0 ≤ o ∧ o < 8) (w : World) : Calls Tryd.prog 86 #[.agg (relC r), U s, I o] w (Pure (U (growG r s o)) w) := by
 refine enter Tryd.func86 rfl Tryd.ntmps86 rfl <| have hH := Hp.start w; SR <| RL.new rfl hH (f := fun b => (.pointer (some ⟨b, 0, none⟩))) (run_box (v := .agg _) rfl) <| fun b3 w1 hH2 => va (v := U 0#64) rfl <| RL.nil <| SR <| mU rfl <| mI rfl <| V (run_mul rfl rfl (by omega)) <| V (run_convIU underlying3 underlying125 rfl) <| V (run_shrU rfl rfl) <| V (fA underlying65 0 rfl sizeOf3 rfl) <| V (run_ld underlying3 rfl rfl (hH2.cell (i := 0) rfl (relC_N _))) <| RL.callP rfl hH2 (c_mask_Below _  _) (run_call1 call60 rfl) <| fun w4 hH5 => V (run_andU rfl rfl) <| aU rfl <| RL.nil <| CW.ret <| outP1 Tryd.results86 (congrArg U ?_) hH5.below
 rfl
theorem c_grid_rows (r : Rl) (f : FuncId) (cs : List Value) (ff : Int → BitVec 64) (hn : 1 ≤ r.n ∧ r.n ≤ 8) (w : World) (hf : ∀ args w, (callFunc f args).run Tryd.prog w = .ok (.enter f args) w) (go : ∀ i w', Below w.heap.size w w' → 0 ≤ i → i < r.n → Calls Tryd.prog f (I i :: cs).toArray w' (Pure (U (ff i)) w')) : Calls Tryd.prog 80 #[.agg (relC r), .func (.func f) #[] cs.toArray] w (Pure (U (rowsG ff r.n)) w) := by
 refine enter Tryd.func80 rfl Tryd.ntmps80 rfl <| have hH := Hp.start w; SR <| RL.new rfl hH (f := fun b => (.pointer (some ⟨b, 0, none⟩))) (run_box (v := .agg _) rfl) <| fun b3 w1 hH2 => va (v := U 0#64) rfl <| RL.nil <| SR <| va (v := U 0#64) rfl <| RL.nil <| CW.seq <| SR <| V (fA underlying65 0 rfl sizeOf3 rfl) <| V (run_ld underlying3 rfl rfl (hH2.cell (i := 0) rfl (relC_N _))) <| vm (v := I 0) rfl <| RL.nil <| CW.block <| CW.loop (G := Int) (fun k s' w' => (Fr (5 :: 6 :: (rg 9 13 [])) _ s') ∧ (Hp w w' _) ∧ (s' 5 = U (rowsG ff k)) ∧ (s' 9 = I k) ∧ (0 ≤ k) ∧ (k ≤ r.n)) (fun k => (r.n - k).toNat) (0) ⟨Fr.refl _ _, hH2, rfl, rfl, (by omega), (by omega)⟩ <| ?_
 rintro k sg4 w4 ⟨fr4, hH4, e5_4, e9_4, h0, hk⟩
 have e1_4 := fr4.vv 1 (a := .func _ _ _) rfl rfl
 have e8_4 := fr4.ii 8 rfl rfl
 refine SR <| V (run_lss e9_4 e8_4) <| RL.nil <| CW.seq <| CW.condP rfl (fun h6 => ?_) (fun h6 => ?_)
 ·refine CW.skip <| CW.seq <| CW.block <| SR <| vm e9_4 <| aI rfl <| RL.nil <| CW.region <| vm e5_4 <| vm e1_4 <| mI rfl <| RL.callP rfl hH4 (go _ _ hH4.below (by omega) (by omega)) (run_callC1 hf (cs := cs) rfl rfl) <| fun w7 hH8 => mI rfl <| V (run_mul rfl rfl (by omega)) <| V (run_convIU underlying3 underlying125 rfl) <| V (run_shlU rfl rfl) <| V (run_orU rfl rfl) <| aU rfl <| RL.nil <| CW.region <| V (run_add e9_4 rfl (by omega)) <| mI rfl <| RL.nil <| ?_
  refine ⟨k + 1, ?_, fr4.u4.u4.u4.u1.u1.u1, hH8, (congrArg U (rows_next h0)), (congrArg I (by rfl)), ?_, ?_⟩
  ·((try dsimp only); omega)
  ·omega
  ·omega
 ·refine CW.exit (id := 0) rfl <| SR <| vm e5_4 <| aU rfl <| RL.nil <| CW.ret <| outP1 Tryd.results80 (congrArg U ?_) hH4.below
  (rw [show k = r.n by omega])
theorem c_grid_Close_1 (b c : Nat) (r : Rl) (s : BitVec 64) (o : Int) (hr : rightG r = true) (w : World) (hb : w.heap[b]? = some (.cells (relC r) 65 (0, 0))) (hc : w.heap[c]? = some (.cells #[U s] 31 (0, 0))) (hT : Tab w) : Calls Tryd.prog 81 #[I o, .pointer (some ⟨b, 0, none⟩), .pointer (some ⟨c, 0, none⟩)] w (Pure (U (closeF r s o)) w) := by
 have hl := lst_len (upR r (ofl [o]))
 refine enter Tryd.func81 rfl Tryd.ntmps81 rfl <| have hH := Hp.start w; SR <| va (v := U 0#64) rfl <| RL.nil <| SR <| va (v := U 0#64) rfl <| RL.nil <| CW.seq <| CW.seq <| CW.regionD (by kernel_rfl) hH <| fun w1 hH2 => have zh2 := hH2.sub sR; AT 0 rfl zh2 (fun w hS => run_ldRel underlying65 rfl rfl rfl (hS.ext hb)) <| AQ 1 rfl zh2 (mV (I _) rfl) <| AQ 7 rfl zh2 (mV (I 0) rfl) <| A1 2 <| AO.new rfl gnone rfl hH2 sR (f := fun b => .slice (some ⟨b, 0, none⟩) 1 1) (run_mkL underlying133 rfl rfl (sz := 1) (vs := [I _]) rfl rfl (by decide) (by decide) rfl rfl) <| fun b5 w3 hH4 => ?_
 (try simp only [clX] at hH4)
 have hH6 := hH4.blkRow 1 1 rfl (by decide)
 refine A1 3 <| AO.callP rfl gnone rfl hH6 (sQ sR) (c_mask_Of _ [o] _ (hH6.sl (i := 0) rfl)) (run_call1 call84 rfl) <| fun w7 hH8 => A1 4 <| AO.callP rfl gnone rfl hH8 (sQ sR) (c_relate_Up _ _  _ (hT.hp hH8)) (run_call2 call83 rfl rfl) <| fun w9 hH10 => A1 5 <| AO.callR rfl gnone rfl hH10 (sQ sR) (c_mask_List _  _ (hT.hp hH10)) (run_call1 call82 rfl) <| fun v13 w11 hH12 => A1 6 <| AO.read rfl gnone rfl hH12 (sQ (sQ sR)) (run_lenSl (hH12.sl (i := 0) rfl) rfl underlying133 rfl) <| AD <| CW.block <| CW.loop (G := Int) (fun k s' w' => (Fr (5 :: (7 :: (rg 15 13 []))) _ s') ∧ (Hp w w' _) ∧ (s' 5 = U (orAll (fun p => downR r (growG r s p)) ((lst (upR r (ofl [o]))).take k.toNat))) ∧ (s' 15 = I k) ∧ (0 ≤ k) ∧ (k ≤ (lst (upR r (ofl [o]))).length)) (fun k => ((lst (upR r (ofl [o]))).length - k).toNat) (0) ⟨Fr.refl _ _, hH12, (congrArg U (by simp [orAll])), rfl, (by omega), (by omega)⟩ <| ?_
 rintro k sg16 w16 ⟨fr16, hH16, e5_16, e15_16, h0, hk⟩
 have e1_16 := (fr16 1 rfl).trans (by conv => lhs; whnf)
 have e2_16 := (fr16 2 rfl).trans (by conv => lhs; whnf)
 have e13_16 := (fr16 13 rfl).trans (by conv => lhs; whnf)
 have e14_16 := fr16.ii 14 rfl rfl
 refine SR <| V (run_lss e15_16 e14_16) <| RL.nil <| CW.seq <| CW.condP rfl (fun h18 => ?_) (fun h18 => ?_)
 ·refine CW.skip <| CW.seq <| CW.block <| SR <| V (run_indexAddrS (hH16.sl (i := 0) rfl) underlying133 sizeOf3 e13_16 e15_16 (by omega)) <| V (run_ld underlying3 rfl rfl ((hH16.sl (i := 0) rfl).cell _ _ (map_at (by omega)))) <| aI rfl <| RL.nil <| CW.regionD (by kernel_rfl) hH16 <| fun w19 hH20 => have zh20 := hH20.sub sR; AQ 0 rfl zh20 (run_move e5_16) <| AT 1 rfl zh20 (fun w hS => run_ldRel underlying65 rfl rfl e1_16 (hS.ext hb)) <| AT 2 rfl zh20 (fun w hS => run_ldRel underlying65 rfl rfl e1_16 (hS.ext hb)) <| AT 3 rfl zh20 (fun w hS => run_ld underlying31 rfl e2_16 (hS.extCell hc (v := U _) rfl)) <| AQ 4 rfl zh20 (mV (I _) rfl) <| A1 5 <| AO.callP rfl gnone rfl hH20 sR (c_grid_row _ _ _ (above_lt hr (lst_at h0 ‹_›)) _) (run_call3 call86 rfl rfl rfl) <| fun w21 hH22 => A1 6 <| AO.callP rfl gnone rfl hH22 sR (c_relate_Down _ _  _) (run_call2 call85 rfl rfl) <| fun w23 hH24 => AQ 7 rfl (hH24.sub sR) (run_orU rfl rfl) <| AQ 8 rfl (hH24.sub sR) (aV (U _) rfl) <| AD <| CW.region <| V (run_add e15_16 rfl (by omega)) <| mI rfl <| RL.nil <| ?_
  refine ⟨k + 1, ?_, fr16.u4.u4.u4.u1.u1.u1, hH24, (congrArg U (orAll_next (f := fun p => downR r (growG r s p)) h0 ‹_›)), (congrArg I (by rfl)), ?_, ?_⟩
  ·((try dsimp only); omega)
  ·omega
  ·omega
 ·refine CW.exit (id := 0) rfl <| SR <| vm e5_16 <| aU rfl <| RL.nil <| CW.ret <| outP1 Tryd.results81 (congrArg U ?_) hH16.below
  (rw [take_all ‹_›]; rfl)
theorem c_grid_Close (r : Rl) (s : BitVec 64) (w : World) (hT : Tab w) : Calls Tryd.prog 70 #[.agg (relC r), U s] w (Pure (U (closeG r s)) w) := by
 refine enter Tryd.func70 rfl Tryd.ntmps70 rfl <| have hH := Hp.start w; SR <| RL.new rfl hH (f := fun b => (.pointer (some ⟨b, 0, none⟩))) (run_box (v := .agg _) rfl) <| fun b3 w1 hH2 => RL.new rfl hH2 (f := fun b => (.pointer (some ⟨b, 0, none⟩))) (run_box (v := U _) rfl) <| fun b6 w4 hH5 => va (v := U 0#64) rfl <| RL.nil <| CW.seq <| SR <| V (run_ldRel underlying65 rfl rfl rfl (hH5.blk (i := 1) rfl)) <| RL.callP rfl hH5 (c_grid_Right _  _) (run_call1 call66 rfl) <| fun w7 hH8 => V (run_not rfl) <| RL.nil <| CW.cond rfl (fun h11 => ?_) (fun h11 => ?_)
 ·refine SR <| va (v := U 0#64) rfl <| RL.nil <| CW.ret <| outP1 Tryd.results70 (congrArg U ?_) hH8.below
  exact (close_no (nt ‹_›)).symm
 ·refine CW.skip <| SR <| V (run_ldRel underlying65 rfl rfl rfl (hH8.blk (i := 1) rfl)) <| ?_
  refine V (run_mkF2 (by conv => lhs; whnf) (by conv => lhs; whnf)) ?_
  refine RL.callP rfl hH8 (c_grid_rows r 81 [.pointer (some ⟨b3, 0, none⟩), .pointer (some ⟨b6, 0, none⟩)] (closeF r s) (right_spec (nf ‹(!rightG r) = false›)).1 _ call81 (fun i w h _ _ => c_grid_Close_1 b3 b6 r s i (nf ‹(!rightG r) = false›) w (keep h (hH8.blk (i := 1) rfl)) (keep h (hH8.blk (i := 0) rfl)) ((hT.hp hH8).below h))) (run_call2 call80 rfl rfl) <| fun w12 hH13 => aU rfl <| RL.nil <| CW.ret <| outP1 Tryd.results70 (congrArg U ?_) hH13.below
  exact close_yes (nf ‹_›)
theorem c_grid_Closed (r : Rl) (s : BitVec 64) (w : World) (hT : Tab w) : Calls Tryd.prog 61 #[.agg (relC r), U s] w (Pure (B (closedG r s)) w) := by
 refine enter Tryd.func61 rfl Tryd.ntmps61 rfl <| have hH := Hp.start w; SR <| RL.new rfl hH (f := fun b => (.pointer (some ⟨b, 0, none⟩))) (run_box (v := .agg _) rfl) <| fun b3 w1 hH2 => va (v := B false) rfl <| RL.nil <| SR <| V (run_ldRel underlying65 rfl rfl rfl (hH2.blk (i := 0) rfl)) <| RL.callP rfl hH2 (c_grid_Right _  _) (run_call1 call66 rfl) <| fun w4 hH5 => mB rfl <| RL.split (dj := 7) rfl (fun h7 => ?_) (fun h7 => ?_)
 ·refine gT rfl (bR (c := true) h7) <| V (run_ldRel underlying65 rfl rfl rfl (hH5.blk (i := 0) rfl)) <| gT rfl (bR (c := true) h7) <| mU rfl <| gT rfl (bR (c := true) h7) <| RL.callP rfl hH5 (c_grid_Close _ _  _ (hT.hp hH5)) (run_call2 call70 rfl rfl) <| fun w8 hH9 => gT rfl (bR (c := true) h7) <| mU rfl <| gT rfl (bR (c := true) h7) <| V (run_eqlU rfl rfl) <| V (run_pickT (bR (c := true) h7) (v := B _) rfl) <| aB rfl <| RL.nil <| CW.ret <| outP1 Tryd.results61 (congrArg B ?_) hH9.below
  (rw [closedG, ‹rightG r = true›]; rfl)
 ·refine gF rfl (bR (c := false) h7) <| gF rfl (bR (c := false) h7) <| gF rfl (bR (c := false) h7) <| gF rfl (bR (c := false) h7) <| gF rfl (bR (c := false) h7) <| V (run_pickF (bR (c := false) h7) (v := B false) rfl) <| aB rfl <| RL.nil <| CW.ret <| outP1 Tryd.results61 (congrArg B ?_) hH5.below
  (rw [closedG, ‹rightG r = false›]; rfl)
theorem c_name_letter (c : Int) (w : World) : Calls Tryd.prog 54 #[.int .u8 c] w (Pure (B (letterB c)) w) := by
 refine enter Tryd.func54 rfl Tryd.ntmps54 rfl <| have hH := Hp.start w; SR <| va (v := B false) rfl <| RL.nil <| SR <| vm (v := .int _ _) rfl <| V (run_geq rfl rfl) <| mB rfl <| RL.splitP (dj := 5) rfl (fun h2 => ?_) (fun h2 => ?_)
 ·refine gT rfl (bT h2) <| vm (v := .int _ _) rfl <| gT rfl (bT h2) <| V (run_leq rfl rfl) <| V (run_pickT (bT h2) (v := B _) rfl) <| aB rfl <| RL.nil <| CW.ret <| outP1 Tryd.results54 (congrArg B ?_) hH.below
  (rw [letterB, Bool.eq_iff_iff]; simp only [decide_eq_true_eq, Bool.false_eq_true, false_iff]; omega)
 ·refine gF rfl (bF h2) <| gF rfl (bF h2) <| V (run_pickF (bF h2) (v := B false) rfl) <| aB rfl <| RL.nil <| CW.ret <| outP1 Tryd.results54 (congrArg B ?_) hH.below
  (rw [letterB, Bool.eq_iff_iff]; simp only [decide_eq_true_eq, Bool.false_eq_true, false_iff]; omega)
theorem c_name_goes (c : Int) (w : World) : Calls Tryd.prog 55 #[.int .u8 c] w (Pure (B (goesB c)) w) := by
 refine enter Tryd.func55 rfl Tryd.ntmps55 rfl <| have hH := Hp.start w; SR <| va (v := B false) rfl <| RL.nil <| SR <| vm (v := .int _ _) rfl <| RL.callP rfl hH (c_name_letter _  _) (run_call1 call54 rfl) <| fun w1 hH2 => mB rfl <| RL.split (dj := 5) rfl (fun h4 => ?_) (fun h4 => ?_)
 ·refine gF rfl (bR (c := true) h4) <| gF rfl (bR (c := true) h4) <| gF rfl (bR (c := true) h4) <| RL.gU rfl rfl rfl <| RL.gU rfl rfl rfl <| gF rfl (bR (c := true) h4) <| V (run_pickT (bR (c := true) h4) (v := B true) rfl) <| mB rfl <| gF rfl rfl <| gF rfl rfl <| V (run_pickT rfl (v := B true) rfl) <| aB rfl <| RL.nil <| CW.ret <| outP1 Tryd.results55 (congrArg B ?_) hH2.below
  exact (goes_letter ‹_›).symm
 ·refine gT rfl (bR (c := false) h4) <| vm (v := .int _ _) rfl <| gT rfl (bR (c := false) h4) <| V (run_geq rfl rfl) <| gT rfl (bR (c := false) h4) <| mB rfl <| RL.splitP (dj := 8) rfl (fun h6 => ?_) (fun h6 => ?_)
  ·refine gT rfl (bT h6) <| vm (v := .int _ _) rfl <| gT rfl (bT h6) <| V (run_leq rfl rfl) <| gT rfl (bR (c := false) h4) <| V (run_pickT (bT h6) (v := B _) rfl) <| V (run_pickF (bR (c := false) h4) (v := B _) rfl) <| mB rfl <| RL.splitP (dj := 13) rfl (fun h8 => ?_) (fun h8 => ?_)
   ·refine gF rfl (bT h8) <| gF rfl (bT h8) <| V (run_pickT (bT h8) (v := B true) rfl) <| aB rfl <| RL.nil <| CW.ret <| outP1 Tryd.results55 (congrArg B ?_) hH2.below
    (have hlc := ‹letterB c = false›; rw [letterB, decide_eq_false_iff_not] at hlc; rw [goesB, Bool.eq_iff_iff]; simp only [decide_eq_true_eq, Bool.false_eq_true, false_iff, true_iff]; omega)
   ·refine gT rfl (bF h8) <| vm (v := .int _ _) rfl <| gT rfl (bF h8) <| V (run_eql rfl rfl) <| V (run_pickF (bF h8) (v := B _) rfl) <| aB rfl <| RL.nil <| CW.ret <| outP1 Tryd.results55 (congrArg B ?_) hH2.below
    (have hlc := ‹letterB c = false›; rw [letterB, decide_eq_false_iff_not] at hlc; rw [goesB, Bool.eq_iff_iff]; simp only [decide_eq_true_eq, Bool.false_eq_true, false_iff, true_iff]; omega)
  ·refine gF rfl (bF h6) <| gF rfl (bF h6) <| gT rfl (bR (c := false) h4) <| V (run_pickF (bF h6) (v := B false) rfl) <| V (run_pickF (bR (c := false) h4) (v := B _) rfl) <| mB rfl <| gT rfl rfl <| vm (v := .int _ _) rfl <| gT rfl rfl <| V (run_eql rfl rfl) <| V (run_pickF rfl (v := B _) rfl) <| aB rfl <| RL.nil <| CW.ret <| outP1 Tryd.results55 (congrArg B ?_) hH2.below
   (have hlc := ‹letterB c = false›; rw [letterB, decide_eq_false_iff_not] at hlc; rw [goesB, Bool.eq_iff_iff]; simp only [decide_eq_true_eq, Bool.false_eq_true, false_iff, true_iff]; omega)
theorem c_name_Right (s : Tx) (w : World) : Calls Tryd.prog 41 #[S s] w (Pure (B (nameR s)) w) := by
 have htx := @tx_nil s
 refine enter Tryd.func41 rfl Tryd.ntmps41 rfl <| have hH := Hp.start w; SR <| va (v := B false) rfl <| RL.nil <| CW.seq <| SR <| vm (v := .string _) rfl <| V (run_eqlS rfl rfl) <| mB rfl <| RL.splitP (dj := 6) rfl (fun h2 => ?_) (fun h2 => ?_)
 ·refine gF rfl (bT h2) <| gF rfl (bT h2) <| gF rfl (bT h2) <| V (run_pickT (bT h2) (v := B true) rfl) <| mB rfl <| gF rfl rfl <| gF rfl rfl <| gF rfl rfl <| gF rfl rfl <| V (run_pickT rfl (v := B true) rfl) <| RL.nil <| CW.condT rfl <| SR <| va (v := B false) rfl <| RL.nil <| CW.ret <| outP1 Tryd.results41 (congrArg B ?_) hH.below
  exact (nameR_no1 (by have := htx.1 ‹s = tx0›; omega)).symm
 ·refine gT rfl (bF h2) <| vm (v := .string _) rfl <| gT rfl (bF h2) <| V (run_lenStr rfl underlying9 rfl) <| gT rfl (bF h2) <| V (run_gtr rfl rfl) <| V (run_pickF (bF h2) (v := B _) rfl) <| mB rfl <| RL.splitP (dj := 11) rfl (fun h4 => ?_) (fun h4 => ?_)
  ·refine gF rfl (bT h4) <| gF rfl (bT h4) <| gF rfl (bT h4) <| gF rfl (bT h4) <| V (run_pickT (bT h4) (v := B true) rfl) <| RL.nil <| CW.condT rfl <| SR <| va (v := B false) rfl <| RL.nil <| CW.ret <| outP1 Tryd.results41 (congrArg B ?_) hH.below
   exact (nameR_no1 (by omega)).symm
  ·refine gT rfl (bF h4) <| vm (v := .string _) rfl <| gT rfl (bF h4) <| V (run_idxS underlying9 rfl rfl (by have := mt htx.2 ‹¬ s = tx0›; omega)) <| gT rfl (bF h4) <| RL.callP rfl hH (c_name_letter _  _) (run_call1 call54 rfl) <| fun w5 hH6 => gT rfl (bF h4) <| V (run_not rfl) <| V (run_pickF (bF h4) (v := B _) rfl) <| RL.nil <| CW.cond rfl (fun h9 => ?_) (fun h9 => ?_)
   ·refine SR <| va (v := B false) rfl <| RL.nil <| CW.ret <| outP1 Tryd.results41 (congrArg B ?_) hH6.below
    exact (nameR_no2 (nt ‹_›)).symm
   ·refine CW.skip <| CW.seq <| SR <| vm (v := .string _) rfl <| V (run_lenStr rfl underlying9 rfl) <| vm (v := I 0) rfl <| RL.nil <| CW.block <| have hsz : 1 ≤ s.size ∧ s.size ≤ 16 := ⟨by have := mt htx.2 ‹¬ s = tx0›; omega, by omega⟩; CW.loop (G := Int) (fun k s' w' => (Fr (2 :: 3 :: (rg 19 9 [])) _ s') ∧ (Hp w w' _) ∧ (s' 19 = I k) ∧ (0 ≤ k) ∧ (k ≤ s.size) ∧ (∀ j : Int, 0 ≤ j → j < k → goesB (byteAt s j) = true)) (fun k => (s.size - k).toNat) (0) ⟨Fr.refl _ _, hH6, rfl, (by omega), (by omega), fun j a b => absurd b (by omega)⟩ <| ?_
    rintro k sg10 w10 ⟨fr10, hH10, e19_10, h0, hk, hf⟩
    have e0_10 := fr10.ss 0 rfl rfl
    have e18_10 := fr10.ii 18 rfl rfl
    refine SR <| V (run_lss e19_10 e18_10) <| RL.nil <| CW.seq <| CW.condP rfl (fun h12 => ?_) (fun h12 => ?_)
    ·refine CW.skip <| CW.seq <| CW.block <| SR <| vm e19_10 <| aI rfl <| RL.nil <| SR <| vm e0_10 <| mI rfl <| V (run_idxS underlying9 rfl rfl (by omega)) <| RL.callP rfl hH10 (c_name_goes _  _) (run_call1 call55 rfl) <| fun w13 hH14 => V (run_not rfl) <| RL.nil <| CW.cond rfl (fun h17 => ?_) (fun h17 => ?_)
     ·refine SR <| va (v := B false) rfl <| RL.nil <| CW.ret <| outP1 Tryd.results41 (congrArg B ?_) hH14.below
      exact (nameR_no3 h0 ‹_› (nt ‹_›)).symm
     ·refine CW.skip <| CW.region <| V (run_add e19_10 rfl (by omega)) <| mI rfl <| RL.nil <| ?_
      refine ⟨k + 1, ?_, fr10.u4.u4.u1.u1, hH14, (congrArg I (by rfl)), ?_, ?_, ?_⟩
      ·((try dsimp only); omega)
      ·omega
      ·omega
      ·exact fun j a b => if e : j = k then e ▸ nf ‹_› else hf j a (by omega)
    ·refine CW.exit (id := 0) rfl <| SR <| va (v := B true) rfl <| RL.nil <| CW.ret <| outP1 Tryd.results41 (congrArg B ?_) hH10.below
     exact (nameR_yes hsz (nf ‹_›) ‹_› hf).symm
theorem c_name_place (n : Int) (f : FuncId) (cs : List Value) (P : Int → Bool) (hn : 0 ≤ n ∧ n ≤ 9223372036854775807) (w : World) (hf : ∀ args w, (callFunc f args).run Tryd.prog w = .ok (.enter f args) w) (go : ∀ i w', Below w.heap.size w w' → 0 ≤ i → i < n → Calls Tryd.prog f (I i :: cs).toArray w' (Pure (B (P i)) w')) : Calls Tryd.prog 37 #[I 0, I n, .func (.func f) #[] cs.toArray] w (Pure (I (findV P n)) w) := by
 refine enter Tryd.func37 rfl Tryd.ntmps37 rfl <| have hH := Hp.start w; SR <| va (v := I 0) rfl <| RL.nil <| CW.seq <| SR <| mI rfl <| aI rfl <| RL.nil <| CW.block <| CW.loop (G := Int) (fun k s' w' => (Fr (6 :: 7 :: (rg 9 9 [])) _ s') ∧ (Hp w w' _) ∧ (s' 7 = I k) ∧ (0 ≤ k) ∧ (k ≤ n) ∧ (∀ j : Int, 0 ≤ j → j < k → P j = false)) (fun k => (n - k).toNat) (0) ⟨Fr.refl _ _, hH, rfl, (by omega), (by omega), fun j a b => absurd b (by omega)⟩ <| ?_
 rintro k sg1 w1 ⟨fr1, hH1, e7_1, h0, hk, hg⟩
 have e1_1 := fr1.ii 1 rfl rfl
 have e2_1 := fr1.vv 2 (a := .func _ _ _) rfl rfl
 refine CW.seq <| SR <| vm e7_1 <| vm e1_1 <| V (run_lss rfl rfl) <| RL.nil <| CW.condP rfl (fun h3 => ?_) (fun h3 => ?_)
 ·refine CW.skip <| CW.seq <| CW.block <| SR <| vm e2_1 <| vm e7_1 <| RL.callP rfl hH1 (go _ _ hH1.below (by omega) (by omega)) (run_callC1 hf (cs := cs) rfl rfl) <| fun w4 hH5 => RL.nil <| CW.cond rfl (fun h7 => ?_) (fun h7 => ?_)
  ·refine SR <| vm e7_1 <| aI rfl <| RL.nil <| CW.ret <| outP1 Tryd.results37 (congrArg I ?_) hH5.below
   exact (find_yes h0 ‹_› ‹_› hg).symm
  ·refine CW.skip <| CW.region <| vm e7_1 <| V (run_add rfl rfl (by omega)) <| aI rfl <| RL.nil <| ?_
   refine ⟨k + 1, ?_, fr1.u4.u4.u1, hH5, (congrArg I (by rfl)), ?_, ?_, ?_⟩
   ·((try dsimp only); omega)
   ·omega
   ·omega
   ·exact fun j a b => if e : j = k then e ▸ ‹P k = false› else hg j a (by omega)
 ·refine CW.exit (id := 0) rfl <| SR <| va (v := I (-1)) rfl <| RL.nil <| CW.ret <| outP1 Tryd.results37 (congrArg I ?_) hH1.below
  exact (find_no fun j a b => hg j a (by omega)).symm
theorem c_name_Find_1 (b c : Nat) (v : Value) (l : List Tx) (s : Tx) (i : Int) (hi : 0 ≤ i ∧ i < l.length) (w : World) (hs : Sl w v 1 l.length (txL l)) (hb : w.heap[b]? = some (.cells #[v] 62 (0, 0))) (hc : w.heap[c]? = some (.cells #[S s] 9 (0, 0))) : Calls Tryd.prog 68 #[I i, .pointer (some ⟨b, 0, none⟩), .pointer (some ⟨c, 0, none⟩)] w (Pure (B (decide (l.getD i.toNat tx0 = s))) w) := by
 have hm := hs.small
 unfold maxLen at hm
 refine enter Tryd.func68 rfl Tryd.ntmps68 rfl <| have hH := Hp.start w; SR <| va (v := B false) rfl <| RL.nil <| CW.seq <| CW.regionD (by kernel_rfl) hH <| fun w1 hH2 => have zh2 := hH2.sub sR; AT 0 rfl zh2 (fun w hS => run_ld underlying62 rfl rfl (hS.extCell hb rfl)) <| AQ 1 rfl zh2 (mV (I _) rfl) <| AT 2 rfl zh2 (fun w hS => run_indexAddrS (hs.hp hS) underlying62 sizeOf9 rfl rfl (by omega)) <| AT 3 rfl zh2 (fun w hS => run_ld underlying9 rfl rfl ((hs.hp hS).cell _ _ (txL_at (by omega)))) <| AT 4 rfl zh2 (fun w hS => run_ld underlying9 rfl rfl (hS.extCell hc (v := .string _) rfl)) <| AQ 5 rfl zh2 (run_eqlS rfl rfl) <| AQ 6 rfl zh2 (aV (B _) rfl) <| AD <| CW.ret <| outP1 Tryd.results68 (congrArg B ?_) hH2.below
 rfl
theorem c_name_Find (v : Value) (l : List Tx) (s : Tx) (w : World) (hs : Sl w v 1 l.length (txL l)) : Calls Tryd.prog 58 #[v, S s] w (Pure (I (nfind l s)) w) := by
 have hm := hs.small
 unfold maxLen at hm
 refine enter Tryd.func58 rfl Tryd.ntmps58 rfl <| have hH := Hp.start w; SR <| ?_
 refine RL.new rfl hH (f := fun b => (.pointer (some ⟨b, 0, none⟩))) (run_box (by conv => lhs; whnf)) ?_
 intro b3 w1 hH2
 rw [(one_sl hs).2] at hH2
 refine RL.new rfl hH2 (f := fun b => (.pointer (some ⟨b, 0, none⟩))) (run_box (v := .string _) rfl) <| fun b6 w4 hH5 => va (v := I 0) rfl <| RL.nil <| SR <| V (run_ld underlying62 rfl rfl (hH5.cell (i := 1) rfl rfl)) <| V (run_lenSl (hs.hp hH5) rfl underlying62 rfl) <| ?_
 refine V (run_mkF2 (by conv => lhs; whnf) (by conv => lhs; whnf)) ?_
 refine RL.callP rfl hH5 (c_name_place _ 68 [.pointer (some ⟨b3, 0, none⟩), .pointer (some ⟨b6, 0, none⟩)] (fun i => decide (l.getD i.toNat tx0 = s)) (by omega) _ call68 (fun i w h h0 h1 => c_name_Find_1 b3 b6 v l s i ⟨h0, h1⟩ w ((hs.hp hH5).below h) (keep h (hH5.blk (i := 1) rfl)) (keep h (hH5.blk (i := 0) rfl)))) (run_call3 call37 (show _ = I 0 from rfl) rfl rfl) <| fun w7 hH8 => aI rfl <| RL.nil <| CW.ret <| outP1 Tryd.results58 (congrArg I ?_) hH8.below
 rfl
theorem c_name_Twice_1 (b : Nat) (v : Value) (l : List Tx) (i : Int) (hi : 0 ≤ i ∧ i < l.length) (w : World) (hs : Sl w v 1 l.length (txL l)) (hb : w.heap[b]? = some (.cells #[v] 62 (0, 0))) : Calls Tryd.prog 57 #[I i, .pointer (some ⟨b, 0, none⟩)] w (Pure (B (decide (nfind l (l.getD i.toNat tx0) < i))) w) := by
 have hm := hs.small
 unfold maxLen at hm
 refine enter Tryd.func57 rfl Tryd.ntmps57 rfl <| have hH := Hp.start w; SR <| va (v := B false) rfl <| RL.nil <| CW.seq <| CW.regionD (by kernel_rfl) hH <| fun w1 hH2 => have zh2 := hH2.sub sR; AT 0 rfl zh2 (fun w hS => run_ld underlying62 rfl rfl (hS.extCell hb rfl)) <| AQ 1 rfl zh2 (mV (I _) rfl) <| AT 3 rfl zh2 (fun w hS => run_ld underlying62 rfl rfl (hS.extCell hb rfl)) <| AQ 4 rfl zh2 (mV (I _) rfl) <| AT 5 rfl zh2 (fun w hS => run_indexAddrS (hs.hp hS) underlying62 sizeOf9 rfl rfl (by omega)) <| AT 6 rfl zh2 (fun w hS => run_ld underlying9 rfl rfl ((hs.hp hS).cell _ _ (txL_at (by omega)))) <| A1 2 <| AO.read rfl gnone rfl hH2 sR (run_cut (hs.hp hH2) underlying62 sizeOf9 rfl rfl (by omega)) <| A1 7 <| AO.callP rfl gnone rfl hH2 sR (c_name_Find _ _ _  _ ((hs.hp hH2).cutT (by omega))) (run_call2 call58 rfl rfl) <| fun w5 hH6 => AQ 8 rfl (hH6.sub sR) (run_geq rfl rfl) <| AQ 9 rfl (hH6.sub sR) (aV (B _) rfl) <| AD <| CW.ret <| outP1 Tryd.results57 (congrArg B ?_) hH6.below
 exact tx_ahead hi.1 hi.2
theorem c_name_Twice (v : Value) (l : List Tx) (w : World) (hs : Sl w v 1 l.length (txL l)) : Calls Tryd.prog 43 #[v] w (Pure (I (twice l)) w) := by
 have hm := hs.small
 unfold maxLen at hm
 refine enter Tryd.func43 rfl Tryd.ntmps43 rfl <| have hH := Hp.start w; SR <| ?_
 refine RL.new rfl hH (f := fun b => (.pointer (some ⟨b, 0, none⟩))) (run_box (by conv => lhs; whnf)) ?_
 intro b3 w1 hH2
 rw [(one_sl hs).2] at hH2
 refine va (v := I 0) rfl <| RL.nil <| SR <| V (run_ld underlying62 rfl rfl (hH2.cell (i := 0) rfl rfl)) <| V (run_lenSl (hs.hp hH2) rfl underlying62 rfl) <| ?_
 refine V (run_mkF1 (by conv => lhs; whnf)) ?_
 refine RL.callP rfl hH2 (c_name_place _ 57 [.pointer (some ⟨b3, 0, none⟩)] (fun i => decide (nfind l (l.getD i.toNat tx0) < i)) (by omega) _ call57 (fun i w h h0 h1 => c_name_Twice_1 b3 v l i ⟨h0, h1⟩ w ((hs.hp hH2).below h) (keep h (hH2.blk (i := 0) rfl)))) (run_call3 call37 (show _ = I 0 from rfl) rfl rfl) <| fun w4 hH5 => aI rfl <| RL.nil <| CW.ret <| outP1 Tryd.results43 (congrArg I ?_) hH5.below
 rfl
theorem c_shape_named (v : Value) (l : List Tx) (w : World) (hs : Sl w v 1 l.length (txL l)) : Calls Tryd.prog 64 #[v] w (Pure (B (namedF l)) w) := by
 have hm := hs.small
 unfold maxLen at hm
 refine enter Tryd.func64 rfl Tryd.ntmps64 rfl <| have hH := Hp.start w; SR <| va (v := B false) rfl <| RL.nil <| CW.seq <| SR <| ?_
 refine V (run_move (by conv => lhs; whnf)) ?_
 refine V (run_lenSl (hs.hp hH) rfl underlying62 rfl) <| V (run_lss rfl rfl) <| mB rfl <| RL.splitP (dj := 8) rfl (fun h2 => ?_) (fun h2 => ?_)
 ·refine gF rfl (bT h2) <| gF rfl (bT h2) <| gF rfl (bT h2) <| V (run_pickT (bT h2) (v := B true) rfl) <| mB rfl <| gF rfl rfl <| gF rfl rfl <| gF rfl rfl <| V (run_pickT rfl (v := B true) rfl) <| RL.nil <| CW.condT rfl <| SR <| va (v := B false) rfl <| RL.nil <| CW.ret <| outP1 Tryd.results64 (congrArg B ?_) hH.below
  exact (named_no1 (by omega)).symm
 ·refine gT rfl (bF h2) ?_
  refine V (run_move (by conv => lhs; whnf)) ?_
  refine gT rfl (bF h2) <| V (run_lenSl (hs.hp hH) rfl underlying62 rfl) <| gT rfl (bF h2) <| V (run_gtr rfl rfl) <| V (run_pickF (bF h2) (v := B _) rfl) <| mB rfl <| RL.splitP (dj := 13) rfl (fun h4 => ?_) (fun h4 => ?_)
  ·refine gF rfl (bT h4) <| gF rfl (bT h4) <| gF rfl (bT h4) <| V (run_pickT (bT h4) (v := B true) rfl) <| RL.nil <| CW.condT rfl <| SR <| va (v := B false) rfl <| RL.nil <| CW.ret <| outP1 Tryd.results64 (congrArg B ?_) hH.below
   exact (named_no1 (by omega)).symm
  ·refine gT rfl (bF h4) ?_
   refine V (run_move (by conv => lhs; whnf)) ?_
   refine gT rfl (bF h4) <| RL.callP rfl hH (c_name_Twice _ _  _ (hs.hp hH)) (run_call1 call43 rfl) <| fun w5 hH6 => gT rfl (bF h4) <| V (run_geq rfl rfl) <| V (run_pickF (bF h4) (v := B _) rfl) <| RL.nil <| CW.condP rfl (fun h8 => ?_) (fun h8 => ?_)
   ·refine SR <| va (v := B false) rfl <| RL.nil <| CW.ret <| outP1 Tryd.results64 (congrArg B ?_) hH6.below
    exact (named_no2 (by omega)).symm
   ·refine CW.skip <| CW.seq <| SR <| ?_
    refine V (run_move (by conv => lhs; whnf)) ?_
    refine V (run_lenSl (hs.hp hH6) rfl underlying62 rfl) <| vm (v := I 0) rfl <| RL.nil <| CW.block <| have hn1 : 1 ≤ l.length ∧ l.length ≤ 64 := (by omega); have hn2 : twice l < 0 := (by omega); CW.loop (G := Int) (fun k s' w' => (Fr (2 :: (4 :: (rg 20 8 []))) _ s') ∧ (Hp w w' _) ∧ (s' 20 = I k) ∧ (0 ≤ k) ∧ (k ≤ l.length) ∧ (∀ j : Int, 0 ≤ j → j < k → nameR (l.getD j.toNat tx0) = true)) (fun k => (l.length - k).toNat) (0) ⟨Fr.refl _ _, hH6, rfl, (by omega), (by omega), fun j a b => absurd b (by omega)⟩ <| ?_
    rintro k sg9 w9 ⟨fr9, hH9, e20_9, h0, hk, hg⟩
    have e18_9 := (fr9 18 rfl).trans (by conv => lhs; whnf)
    have e19_9 := fr9.ii 19 rfl rfl
    refine SR <| V (run_lss e20_9 e19_9) <| RL.nil <| CW.seq <| CW.condP rfl (fun h11 => ?_) (fun h11 => ?_)
    ·refine CW.skip <| CW.seq <| CW.block <| SR <| V (run_indexAddrS (hs.hp hH9) underlying62 sizeOf9 e18_9 e20_9 (by omega)) <| V (run_ld underlying9 rfl rfl ((hs.hp hH9).cell _ _ (txL_at (by omega)))) <| va (v := .string _) rfl <| RL.nil <| SR <| vm (v := .string _) rfl <| RL.callP rfl hH9 (c_name_Right _  _) (run_call1 call41 rfl) <| fun w12 hH13 => V (run_not rfl) <| RL.nil <| CW.cond rfl (fun h16 => ?_) (fun h16 => ?_)
     ·refine SR <| va (v := B false) rfl <| RL.nil <| CW.ret <| outP1 Tryd.results64 (congrArg B ?_) hH13.below
      exact (named_no3 h0 ‹_› (nt ‹_›)).symm
     ·refine CW.skip <| CW.region <| V (run_add e20_9 rfl (by omega)) <| mI rfl <| RL.nil <| ?_
      refine ⟨k + 1, ?_, fr9.u4.u4.u1, hH13, (congrArg I (by rfl)), ?_, ?_, ?_⟩
      ·((try dsimp only); omega)
      ·omega
      ·omega
      ·exact fun j a b => if e : j = k then e ▸ nf ‹_› else hg j a (by omega)
    ·refine CW.exit (id := 0) rfl <| SR <| va (v := B true) rfl <| RL.nil <| CW.ret <| outP1 Tryd.results64 (congrArg B ?_) hH9.below
     exact (named_yes hn1 hn2 ‹_› hg).symm
theorem c_shape_factor (f : Fac) (w : World) (hf : FacV (Kw w) f) (hT : Tab w) : Calls Tryd.prog 56 #[.agg (facC f)] w (Pure (B (factorR f.fc)) w) := by
 have hm := hf.names.sl.small
 unfold maxLen at hm
 refine enter Tryd.func56 rfl Tryd.ntmps56 rfl <| have hH := Hp.start w; SR <| RL.new rfl hH (f := fun b => (.pointer (some ⟨b, 0, none⟩))) (run_box (v := .agg _) rfl) <| fun b3 w1 hH2 => va (v := B false) rfl <| RL.nil <| CW.seq <| SR <| V (fA underlying67 1 rfl sizeOf62 rfl) <| V (run_ld underlying62 rfl rfl (hH2.cell (i := 0) rfl rfl)) <| RL.callP rfl hH2 (c_shape_named _ _  _ (hf.names.sl.hp hH2)) (run_call1 call64 rfl) <| fun w4 hH5 => V (run_not rfl) <| RL.nil <| CW.cond rfl (fun h8 => ?_) (fun h8 => ?_)
 ·refine SR <| va (v := B false) rfl <| RL.nil <| CW.ret <| outP1 Tryd.results56 (congrArg B ?_) hH5.below
  exact (fac_no (f := f.fc) (nt ‹_›)).symm
 ·refine CW.skip <| CW.seq <| SR <| V (fA underlying67 0 rfl sizeOf3 rfl) <| V (run_ld underlying3 rfl rfl (hH5.cell (i := 0) rfl (v := I _) rfl)) <| RL.nil <| CW.block <| CW.seq <| SR <| V (run_eql rfl rfl) <| aB rfl <| RL.nil <| CW.condP rfl (fun h10 => ?_) (fun h10 => ?_)
  ·refine CW.skip <| CW.condT (bT h10) <| SR <| V (fA underlying67 2 rfl sizeOf65 rfl) <| V (run_ldBR underlying65 rfl rfl rfl (hH5.blk (i := 0) rfl)) <| V (run_bld (vs := []) rfl built_rel0) <| RL.callP rfl hH5 (c_relate_Same _ _  _) (run_call2 call65 rfl rfl) <| fun w11 hH12 => aB rfl <| RL.nil <| CW.ret <| outP1 Tryd.results56 (congrArg B ?_) hH12.below
   exact (fac_12s (f := f.fc) (nf ‹(!namedF f.names) = false›) (.inl ‹_›)).symm
  ·refine CW.region <| V (run_eql rfl rfl) <| aB rfl <| RL.nil <| CW.condP rfl (fun h16 => ?_) (fun h16 => ?_)
   ·refine SR <| V (fA underlying67 2 rfl sizeOf65 rfl) <| V (run_ldBR underlying65 rfl rfl rfl (hH5.blk (i := 0) rfl)) <| V (run_bld (vs := []) rfl built_rel0) <| RL.callP rfl hH5 (c_relate_Same _ _  _) (run_call2 call65 rfl rfl) <| fun w17 hH18 => aB rfl <| RL.nil <| CW.ret <| outP1 Tryd.results56 (congrArg B ?_) hH18.below
    exact (fac_12s (f := f.fc) (nf ‹(!namedF f.names) = false›) (.inr ‹_›)).symm
   ·refine SR <| V (run_eql rfl rfl) <| aB rfl <| RL.nil <| CW.condP rfl (fun h22 => ?_) (fun h22 => ?_)
    ·refine SR <| V (fA underlying67 2 rfl sizeOf65 rfl) <| V (fA underlying65 0 rfl sizeOf3 rfl) <| V (run_ld underlying3 rfl rfl (hH5.cell (i := 0) rfl (v := I _) rfl)) <| V (fA underlying67 1 rfl sizeOf62 rfl) <| V (run_ld underlying62 rfl rfl (hH5.cell (i := 0) rfl rfl)) <| V (run_lenSl (hf.names.sl.hp hH5) rfl underlying62 rfl) <| V (run_eql rfl rfl) <| mB rfl <| RL.splitP (dj := 25) rfl (fun h24 => ?_) (fun h24 => ?_)
     ·refine gT rfl (bT h24) <| V (fA underlying67 2 rfl sizeOf65 rfl) <| gT rfl (bT h24) <| V (run_ldBR underlying65 rfl rfl rfl (hH5.blk (i := 0) rfl)) <| gT rfl (bT h24) <| RL.callP rfl hH5 (c_grid_Right _  _) (run_call1 call66 rfl) <| fun w25 hH26 => V (run_pickT (bT h24) (v := B _) rfl) <| aB rfl <| RL.nil <| CW.ret <| outP1 Tryd.results56 (congrArg B ?_) hH26.below
      exact (fac_3y (f := f.fc) (nf ‹(!namedF f.names) = false›) ‹_› ‹_›).symm
     ·refine gF rfl (bF h24) <| gF rfl (bF h24) <| gF rfl (bF h24) <| V (run_pickF (bF h24) (v := B false) rfl) <| aB rfl <| RL.nil <| CW.ret <| outP1 Tryd.results56 (congrArg B ?_) hH5.below
      exact (fac_3n (f := f.fc) ‹_› ‹_›).symm
    ·refine SR <| V (run_eql rfl rfl) <| aB rfl <| RL.nil <| CW.condP rfl (fun h29 => ?_) (fun h29 => ?_)
     ·refine SR <| V (fA underlying67 2 rfl sizeOf65 rfl) <| V (fA underlying65 0 rfl sizeOf3 rfl) <| V (run_ld underlying3 rfl rfl (hH5.cell (i := 0) rfl (v := I _) rfl)) <| V (fA underlying67 1 rfl sizeOf62 rfl) <| V (run_ld underlying62 rfl rfl (hH5.cell (i := 0) rfl rfl)) <| V (run_lenSl (hf.names.sl.hp hH5) rfl underlying62 rfl) <| V (run_eql rfl rfl) <| mB rfl <| RL.splitP (dj := 39) rfl (fun h31 => ?_) (fun h31 => ?_)
      ·refine gT rfl (bT h31) <| V (fA underlying67 2 rfl sizeOf65 rfl) <| gT rfl (bT h31) <| V (run_ldBR underlying65 rfl rfl rfl (hH5.blk (i := 0) rfl)) <| gT rfl (bT h31) <| RL.callP rfl hH5 (c_hasse_Lattice _  _ (hT.hp hH5)) (run_call1 call67 rfl) <| fun w32 hH33 => V (run_pickT (bT h31) (v := B _) rfl) <| aB rfl <| RL.nil <| CW.ret <| outP1 Tryd.results56 (congrArg B ?_) hH33.below
       exact (fac_4y (f := f.fc) (nf ‹(!namedF f.names) = false›) ‹_› ‹_›).symm
      ·refine gF rfl (bF h31) <| gF rfl (bF h31) <| gF rfl (bF h31) <| V (run_pickF (bF h31) (v := B false) rfl) <| aB rfl <| RL.nil <| CW.ret <| outP1 Tryd.results56 (congrArg B ?_) hH5.below
       exact (fac_4n (f := f.fc) ‹_› ‹_›).symm
     ·refine CW.skip <| SR <| va (v := B false) rfl <| RL.nil <| CW.ret <| outP1 Tryd.results56 (congrArg B ?_) hH5.below
      exact (fac_x (f := f.fc) ‹_› ‹_› ‹_› ‹_›).symm
theorem c_shape_Right (s : Shp) (w : World) (hs : ShpV (Kw w) s) (hT : Tab w) : Calls Tryd.prog 42 #[.agg (shpC s)] w (Pure (B (shR s.sh)) w) := by
 have hsl := sh_len s
 have hm := hs.facs.sl.small
 unfold maxLen at hm
 refine enter Tryd.func42 rfl Tryd.ntmps42 rfl <| have hH := Hp.start w; SR <| RL.new rfl hH (f := fun b => (.pointer (some ⟨b, 0, none⟩))) (run_box (v := .agg _) rfl) <| fun b3 w1 hH2 => va (v := B false) rfl <| RL.nil <| SR <| V (fA underlying70 1 rfl sizeOf68 rfl) <| V (run_ld underlying68 rfl rfl (hH2.cell (i := 0) rfl rfl)) <| V (run_lenSl (hs.facs.sl.hp hH2) rfl underlying68 rfl) <| aI rfl <| RL.nil <| CW.seq <| SR <| mI rfl <| V (run_lss rfl rfl) <| mB rfl <| RL.splitP (dj := 11) rfl (fun h5 => ?_) (fun h5 => ?_)
 ·refine gF rfl (bT h5) <| gF rfl (bT h5) <| V (run_pickT (bT h5) (v := B true) rfl) <| mB rfl <| gF rfl rfl <| gF rfl rfl <| gF rfl rfl <| gF rfl rfl <| RL.gU rfl rfl rfl <| RL.gU rfl rfl rfl <| gF rfl rfl <| V (run_pickT rfl (v := B true) rfl) <| RL.nil <| CW.condT rfl <| SR <| va (v := B false) rfl <| RL.nil <| CW.ret <| outP1 Tryd.results42 (congrArg B ?_) hH2.below
  exact (shR_no1 (by omega)).symm
 ·refine gT rfl (bF h5) <| mI rfl <| gT rfl (bF h5) <| V (run_gtr rfl rfl) <| V (run_pickF (bF h5) (v := B _) rfl) <| mB rfl <| RL.splitP (dj := 15) rfl (fun h7 => ?_) (fun h7 => ?_)
  ·refine gF rfl (bT h7) <| gF rfl (bT h7) <| gF rfl (bT h7) <| gF rfl (bT h7) <| RL.gU rfl rfl rfl <| RL.gU rfl rfl rfl <| gF rfl (bT h7) <| V (run_pickT (bT h7) (v := B true) rfl) <| RL.nil <| CW.condT rfl <| SR <| va (v := B false) rfl <| RL.nil <| CW.ret <| outP1 Tryd.results42 (congrArg B ?_) hH2.below
   exact (shR_no1 (by omega)).symm
  ·refine gT rfl (bF h7) <| V (fA underlying70 0 rfl sizeOf4 rfl) <| gT rfl (bF h7) <| V (run_ld underlying4 rfl rfl (hH2.cell (i := 0) rfl (v := B _) rfl)) <| gT rfl (bF h7) <| V (run_not rfl) <| gT rfl (bF h7) <| mB rfl <| RL.split (dj := 19) rfl (fun h10 => ?_) (fun h10 => ?_)
   ·refine gT rfl (bR (c := true) h10) <| mI rfl <| gT rfl (bR (c := true) h10) <| V (run_neq rfl rfl) <| gT rfl (bF h7) <| V (run_pickT (bR (c := true) h10) (v := B _) rfl) <| V (run_pickF (bF h7) (v := B _) rfl) <| RL.nil <| CW.condP rfl (fun h12 => ?_) (fun h12 => ?_)
    ·refine SR <| va (v := B false) rfl <| RL.nil <| CW.ret <| outP1 Tryd.results42 (congrArg B ?_) hH2.below
     exact (shR_no2 (by exact nt ‹_›) (by omega)).symm
    ·refine CW.skip <| CW.seq <| SR <| V (fA underlying70 1 rfl sizeOf68 rfl) <| V (run_ld underlying68 rfl rfl (hH2.cell (i := 0) rfl rfl)) <| V (run_lenSl (hs.facs.sl.hp hH2) rfl underlying68 rfl) <| vm (v := I 0) rfl <| RL.nil <| CW.block <| have hc2 : s.sh.tuple = true ∨ s.sh.facs.length = 1 := (by exact .inr (by omega)); have hc1 : 1 ≤ s.facs.length ∧ s.facs.length ≤ 8 := (by omega); CW.loop (G := Int) (fun k s' w' => (Fr (2 :: (5 :: (rg 27 8 []))) _ s') ∧ (Hp w w' _) ∧ (s' 27 = I k) ∧ (0 ≤ k) ∧ (k ≤ s.facs.length) ∧ (∀ j : Int, 0 ≤ j → j < k → factorR (s.facs.getD j.toNat fac0).fc = true)) (fun k => (s.facs.length - k).toNat) (0) ⟨Fr.refl _ _, hH2, rfl, (by omega), (by omega), fun j a b => absurd b (by omega)⟩ <| ?_
     rintro k sg13 w13 ⟨fr13, hH13, e27_13, h0, hk, hg⟩
     have e25_13 := (fr13 25 rfl).trans (by conv => lhs; whnf)
     have e26_13 := fr13.ii 26 rfl rfl
     refine SR <| V (run_lss e27_13 e26_13) <| RL.nil <| CW.seq <| CW.condP rfl (fun h15 => ?_) (fun h15 => ?_)
     ·refine CW.skip <| CW.seq <| CW.block <| SR <| V (run_indexAddrS (hs.facs.sl.hp hH13) underlying68 sizeOf67 e25_13 e27_13 (by omega)) <| V (run_ldE (dv := fac0) facL_len (hs.facs.sl.hp hH13) underlying67 rfl rfl rfl (by omega)) <| RL.new rfl hH13 (f := fun b => (.pointer (some ⟨b, 0, none⟩))) (run_alloc zero_fac) <| fun b18 w16 hH17 => RL.set hH17 (i := 0) rfl (run_stFac (hs.at (by omega) (by omega)) rfl rfl rfl (hH17.blk (i := 0) rfl)) <| fun w19 hH20 => ?_
      simp only [z2] at hH20
      refine RL.nil <| SR <| V (run_ldFac underlying67 rfl rfl rfl (hH20.blk (i := 0) rfl)) <| RL.callP rfl hH20 (c_shape_factor _  _ ((hs.at (by omega) (by omega)).mono hH20.kw) (hT.hp hH20)) (run_call1 call56 rfl) <| fun w21 hH22 => V (run_not rfl) <| RL.nil <| CW.cond rfl (fun h25 => ?_) (fun h25 => ?_)
      ·refine SR <| va (v := B false) rfl <| RL.nil <| CW.ret <| outP1 Tryd.results42 (congrArg B ?_) hH22.below
       exact (shR_no3 (k := k) h0 (by omega) (by rw [sh_get]; exact nt ‹_›)).symm
      ·refine CW.skip <| CW.region <| V (run_add e27_13 rfl (by omega)) <| mI rfl <| RL.nil <| ?_
       refine ⟨k + 1, ?_, fr13.u4.u4.u1, (hH22.sub (sQ sR)), (congrArg I (by rfl)), ?_, ?_, ?_⟩
       ·((try dsimp only); omega)
       ·omega
       ·omega
       ·exact fun j a b => if e : j = k then e ▸ nf ‹_› else hg j a (by omega)
     ·refine CW.exit (id := 0) rfl <| SR <| va (v := B true) rfl <| RL.nil <| CW.ret <| outP1 Tryd.results42 (congrArg B ?_) hH13.below
      exact (shR_yes (k := k) (by omega) hc2 (by omega) fun j a b => by rw [sh_get]; exact hg j a b).symm
   ·refine gF rfl (bR (c := false) h10) <| gF rfl (bR (c := false) h10) <| gT rfl (bF h7) <| V (run_pickF (bR (c := false) h10) (v := B false) rfl) <| V (run_pickF (bF h7) (v := B _) rfl) <| RL.nil <| CW.condF rfl <| CW.skip <| CW.seq <| SR <| V (fA underlying70 1 rfl sizeOf68 rfl) <| V (run_ld underlying68 rfl rfl (hH2.cell (i := 0) rfl rfl)) <| V (run_lenSl (hs.facs.sl.hp hH2) rfl underlying68 rfl) <| vm (v := I 0) rfl <| RL.nil <| CW.block <| have hc2 : s.sh.tuple = true ∨ s.sh.facs.length = 1 := (by exact .inl (nf ‹(!s.tuple) = false›)); have hc1 : 1 ≤ s.facs.length ∧ s.facs.length ≤ 8 := (by omega); CW.loop (G := Int) (fun k s' w' => (Fr (2 :: (5 :: (rg 27 8 []))) _ s') ∧ (Hp w w' _) ∧ (s' 27 = I k) ∧ (0 ≤ k) ∧ (k ≤ s.facs.length) ∧ (∀ j : Int, 0 ≤ j → j < k → factorR (s.facs.getD j.toNat fac0).fc = true)) (fun k => (s.facs.length - k).toNat) (0) ⟨Fr.refl _ _, hH2, rfl, (by omega), (by omega), fun j a b => absurd b (by omega)⟩ <| ?_
    rintro k sg26 w26 ⟨fr26, hH26, e27_26, h0, hk, hg⟩
    have e25_26 := (fr26 25 rfl).trans (by conv => lhs; whnf)
    have e26_26 := fr26.ii 26 rfl rfl
    refine SR <| V (run_lss e27_26 e26_26) <| RL.nil <| CW.seq <| CW.condP rfl (fun h28 => ?_) (fun h28 => ?_)
    ·refine CW.skip <| CW.seq <| CW.block <| SR <| V (run_indexAddrS (hs.facs.sl.hp hH26) underlying68 sizeOf67 e25_26 e27_26 (by omega)) <| V (run_ldE (dv := fac0) facL_len (hs.facs.sl.hp hH26) underlying67 rfl rfl rfl (by omega)) <| RL.new rfl hH26 (f := fun b => (.pointer (some ⟨b, 0, none⟩))) (run_alloc zero_fac) <| fun b31 w29 hH30 => RL.set hH30 (i := 0) rfl (run_stFac (hs.at (by omega) (by omega)) rfl rfl rfl (hH30.blk (i := 0) rfl)) <| fun w32 hH33 => ?_
     simp only [z2] at hH33
     refine RL.nil <| SR <| V (run_ldFac underlying67 rfl rfl rfl (hH33.blk (i := 0) rfl)) <| RL.callP rfl hH33 (c_shape_factor _  _ ((hs.at (by omega) (by omega)).mono hH33.kw) (hT.hp hH33)) (run_call1 call56 rfl) <| fun w34 hH35 => V (run_not rfl) <| RL.nil <| CW.cond rfl (fun h38 => ?_) (fun h38 => ?_)
     ·refine SR <| va (v := B false) rfl <| RL.nil <| CW.ret <| outP1 Tryd.results42 (congrArg B ?_) hH35.below
      exact (shR_no3 (k := k) h0 (by omega) (by rw [sh_get]; exact nt ‹_›)).symm
     ·refine CW.skip <| CW.region <| V (run_add e27_26 rfl (by omega)) <| mI rfl <| RL.nil <| ?_
      refine ⟨k + 1, ?_, fr26.u4.u4.u1, (hH35.sub (sQ sR)), (congrArg I (by rfl)), ?_, ?_, ?_⟩
      ·((try dsimp only); omega)
      ·omega
      ·omega
      ·exact fun j a b => if e : j = k then e ▸ nf ‹_› else hg j a (by omega)
    ·refine CW.exit (id := 0) rfl <| SR <| va (v := B true) rfl <| RL.nil <| CW.ret <| outP1 Tryd.results42 (congrArg B ?_) hH26.below
     exact (shR_yes (k := k) (by omega) hc2 (by omega) fun j a b => by rw [sh_get]; exact hg j a b).symm
theorem c_shape_word (f : Fac) (s : BitVec 64) (w : World) (hf : FacV (Kw w) f) (hT : Tab w) : Calls Tryd.prog 48 #[.agg (facC f), U s] w (Pure (B (wordF f.fc s)) w) := by
 have hm := hf.names.sl.small
 unfold maxLen at hm
 refine enter Tryd.func48 rfl Tryd.ntmps48 rfl <| have hH := Hp.start w; SR <| RL.new rfl hH (f := fun b => (.pointer (some ⟨b, 0, none⟩))) (run_box (v := .agg _) rfl) <| fun b3 w1 hH2 => va (v := B false) rfl <| RL.nil <| CW.seq <| SR <| V (fA underlying67 0 rfl sizeOf3 rfl) <| V (run_ld underlying3 rfl rfl (hH2.cell (i := 0) rfl (v := I _) rfl)) <| RL.nil <| CW.block <| SR <| V (run_eql rfl rfl) <| aB rfl <| RL.nil <| CW.condP rfl (fun h5 => ?_) (fun h5 => ?_)
 ·refine SR <| V (fA underlying67 1 rfl sizeOf62 rfl) <| V (run_ld underlying62 rfl rfl (hH2.cell (i := 0) rfl rfl)) <| V (run_lenSl (hf.names.sl.hp hH2) rfl underlying62 rfl) <| mU rfl <| RL.callP rfl hH2 (c_rung_Right _ _  _) (run_call2 call59 rfl rfl) <| fun w6 hH7 => aB rfl <| RL.nil <| CW.ret <| outP1 Tryd.results48 (congrArg B ?_) hH7.below
  exact (word1 (f := f.fc) ‹_› s).symm
 ·refine SR <| V (run_eql rfl rfl) <| aB rfl <| RL.nil <| CW.condP rfl (fun h10 => ?_) (fun h10 => ?_)
  ·refine SR <| mU rfl <| V (fA underlying67 1 rfl sizeOf62 rfl) <| V (run_ld underlying62 rfl rfl (hH2.cell (i := 0) rfl rfl)) <| V (run_lenSl (hf.names.sl.hp hH2) rfl underlying62 rfl) <| RL.callP rfl hH2 (c_mask_Below _  _) (run_call1 call60 rfl) <| fun w11 hH12 => RL.callP rfl hH12 (c_mask_Sub _ _  _) (run_call2 call53 rfl rfl) <| fun w13 hH14 => aB rfl <| RL.nil <| CW.ret <| outP1 Tryd.results48 (congrArg B ?_) hH14.below
   exact (word2 (f := f.fc) ‹_› s).symm
  ·refine SR <| V (run_eql rfl rfl) <| aB rfl <| RL.nil <| CW.condP rfl (fun h17 => ?_) (fun h17 => ?_)
   ·refine SR <| V (fA underlying67 2 rfl sizeOf65 rfl) <| V (run_ldBR underlying65 rfl rfl rfl (hH2.blk (i := 0) rfl)) <| mU rfl <| RL.callP rfl hH2 (c_grid_Closed _ _  _ (hT.hp hH2)) (run_call2 call61 rfl rfl) <| fun w18 hH19 => aB rfl <| RL.nil <| CW.ret <| outP1 Tryd.results48 (congrArg B ?_) hH19.below
    exact (word3 (f := f.fc) ‹_› s).symm
   ·refine CW.skip <| SR <| V (fA underlying67 2 rfl sizeOf65 rfl) <| V (run_ldBR underlying65 rfl rfl rfl (hH2.blk (i := 0) rfl)) <| mU rfl <| RL.callP rfl hH2 (c_hasse_Point _ _  _ (hT.hp hH2)) (run_call2 call62 rfl rfl) <| fun w21 hH22 => ?_
    refine V (run_move (by conv => lhs; whnf)) ?_
    refine V (run_extract rfl (v := I _) rfl) <| V (run_extract rfl (v := B _) rfl) <| aI rfl <| aB rfl <| RL.nil <| SR <| mB rfl <| aB rfl <| RL.nil <| CW.ret <| outP1 Tryd.results48 (congrArg B ?_) hH22.below
    exact (wordx (f := f.fc) ‹_› ‹_› ‹_› s).symm
theorem c_shape_Fits (s : Shp) (e : El) (w : World) (hs : ShpV (Kw w) s) (hT : Tab w) : Calls Tryd.prog 26 #[.agg (shpC s), .agg (elC e)] w (Pure (B (fitsS s.sh e)) w) := by
 have hsl := sh_len s
 have hm := hs.facs.sl.small
 unfold maxLen at hm
 refine enter Tryd.func26 rfl Tryd.ntmps26 rfl <| have hH := Hp.start w; SR <| RL.new rfl hH (f := fun b => (.pointer (some ⟨b, 0, none⟩))) (run_box (v := .agg _) rfl) <| fun b3 w1 hH2 => RL.new rfl hH2 (f := fun b => (.pointer (some ⟨b, 0, none⟩))) (run_box (v := .agg _) rfl) <| fun b6 w4 hH5 => va (v := B false) rfl <| RL.nil <| CW.seq <| SR <| V (run_ldA (cs := [B _, _]) underlying70 rfl rfl rfl (rangeAt_cells (hH5.blk (i := 1) rfl))) <| RL.callP rfl hH5 (c_shape_Right _  _ (hs.mono hH5.kw) (hT.hp hH5)) (run_call1 call42 rfl) <| fun w7 hH8 => V (run_not rfl) <| RL.nil <| CW.cond rfl (fun h11 => ?_) (fun h11 => ?_)
 ·refine SR <| va (v := B false) rfl <| RL.nil <| CW.ret <| outP1 Tryd.results26 (congrArg B ?_) hH8.below
  exact (fits_no1 (nt ‹_›)).symm
 ·refine CW.skip <| CW.seq <| SR <| V (run_ldEl underlying33 rfl rfl rfl (hH8.blk (i := 0) rfl)) <| vm (v := I 0) rfl <| RL.nil <| CW.block <| have hr : shR s.sh = true := nf ‹_›; CW.loop (G := Int) (fun k s' w' => (Fr (rg 4 3 (rg 11 20 [])) _ s') ∧ (Hp w w' _) ∧ (s' 11 = I k) ∧ (0 ≤ k) ∧ (k ≤ 8) ∧ (FitTo s.sh e k)) (fun k => (8 - k).toNat) (0) ⟨Fr.refl _ _, hH8, rfl, (by omega), (by omega), FitTo.none _ _⟩ <| ?_
  rintro k sg12 w12 ⟨fr12, hH12, e11_12, h0, hk, hf⟩
  have e2_12 := fr12.pp 2 rfl rfl
  have e10_12 := fr12.aa 10 rfl rfl
  refine SR <| V (run_lss e11_12 rfl) <| RL.nil <| CW.seq <| CW.condP rfl (fun h14 => ?_) (fun h14 => ?_)
  ·refine CW.skip <| CW.seq <| CW.block <| SR <| vm e11_12 <| V (run_indexA underlying33 isAgg31 sizeOf31 e10_12 e11_12 (by omega) (elC_ix _ (by omega))) <| aI rfl <| aU rfl <| RL.nil <| CW.seq <| SR <| mI rfl <| V (fA underlying70 1 rfl sizeOf68 e2_12) <| V (run_ld underlying68 rfl rfl (hH12.cell (i := 1) rfl rfl)) <| V (run_lenSl (hs.facs.sl.hp hH12) rfl underlying68 rfl) <| V (run_geq rfl rfl) <| RL.nil <| CW.condP rfl (fun h16 => ?_) (fun h16 => ?_)
   ·refine CW.seq <| SR <| mU rfl <| V (run_neqU rfl (b := 0#64) rfl) <| RL.nil <| CW.condP rfl (fun h18 => ?_) (fun h18 => ?_)
    ·refine SR <| va (v := B false) rfl <| RL.nil <| CW.ret <| outP1 Tryd.results26 (congrArg B ?_) hH12.below
     exact (fits_no3 h0 ‹_› (by omega) ‹_›).symm
    ·refine CW.skip <| CW.exit (id := 1) rfl <| CW.region <| V (run_add e11_12 rfl (by omega)) <| mI rfl <| RL.nil <| ?_
     refine ⟨k + 1, ?_, fr12.u4.u4.u4.u1.u1, hH12, (congrArg I (by rfl)), ?_, ?_, ?_⟩
     ·((try dsimp only); omega)
     ·omega
     ·omega
     ·exact hf.next (fun h => by exfalso; omega) (fun h => by exact Decidable.of_not_not ‹_›)
   ·refine CW.skip <| SR <| V (fA underlying70 1 rfl sizeOf68 e2_12) <| V (run_ld underlying68 rfl rfl (hH12.cell (i := 1) rfl rfl)) <| mI rfl <| V (run_indexAddrS (hs.facs.sl.hp hH12) underlying68 sizeOf67 rfl rfl (by omega)) <| V (run_ldE (dv := fac0) facL_len (hs.facs.sl.hp hH12) underlying67 rfl rfl rfl (by omega)) <| mU rfl <| RL.callP rfl hH12 (c_shape_word _ _  _ ((hs.at (by omega) (by omega)).mono hH12.kw) (hT.hp hH12)) (run_call2 call48 rfl rfl) <| fun w19 hH20 => V (run_not rfl) <| RL.nil <| CW.cond rfl (fun h23 => ?_) (fun h23 => ?_)
    ·refine SR <| va (v := B false) rfl <| RL.nil <| CW.ret <| outP1 Tryd.results26 (congrArg B ?_) hH20.below
     exact (fits_no2 h0 ‹_› (by omega) (by rw [sh_get]; exact nt ‹_›)).symm
    ·refine CW.skip <| CW.region <| V (run_add e11_12 rfl (by omega)) <| mI rfl <| RL.nil <| ?_
     refine ⟨k + 1, ?_, fr12.u4.u4.u4.u4.u4, hH20, (congrArg I (by rfl)), ?_, ?_, ?_⟩
     ·((try dsimp only); omega)
     ·omega
     ·omega
     ·exact hf.next (fun h => by rw [sh_get]; exact nf ‹_›) (fun h => by exfalso; omega)
  ·refine CW.exit (id := 0) rfl <| SR <| va (v := B true) rfl <| RL.nil <| CW.ret <| outP1 Tryd.results26 (congrArg B ?_) hH12.below
   exact (fits_yes hr ‹_› hf).symm
theorem c_shape_Leq (a b : El) (w : World) : Calls Tryd.prog 35 #[.agg (elC a), .agg (elC b)] w (Pure (B (leqE a b)) w) := by
 refine enter Tryd.func35 rfl Tryd.ntmps35 rfl <| have hH := Hp.start w; SR <| RL.new rfl hH (f := fun b => (.pointer (some ⟨b, 0, none⟩))) (run_box (v := .agg _) rfl) <| fun b3 w1 hH2 => RL.new rfl hH2 (f := fun b => (.pointer (some ⟨b, 0, none⟩))) (run_box (v := .agg _) rfl) <| fun b6 w4 hH5 => va (v := B false) rfl <| RL.nil <| CW.seq <| SR <| vm (v := I 0) rfl <| RL.nil <| CW.block <| CW.loop (G := Int) (fun k s' w' => (Fr (rg 4 14 []) _ s') ∧ (Hp w w' _) ∧ (s' 6 = I k) ∧ (0 ≤ k) ∧ (k ≤ 8) ∧ (∀ j : Int, 0 ≤ j → j < k → subB (a j.toNat) (b j.toNat) = true)) (fun k => (8 - k).toNat) (0) ⟨Fr.refl _ _, hH5, rfl, (by omega), (by omega), fun j u v => absurd v (by omega)⟩ <| ?_
 rintro k sg7 w7 ⟨fr7, hH7, e6_7, h0, hk, hf⟩
 have e2_7 := fr7.pp 2 rfl rfl
 have e3_7 := fr7.pp 3 rfl rfl
 refine SR <| V (run_lss e6_7 rfl) <| RL.nil <| CW.seq <| CW.condP rfl (fun h9 => ?_) (fun h9 => ?_)
 ·refine CW.skip <| CW.seq <| CW.block <| SR <| vm e6_7 <| aI rfl <| RL.nil <| CW.seq <| CW.regionD (by kernel_rfl) hH7 <| fun w10 hH11 => have zh11 := hH11.sub sR; AQ 0 rfl zh11 (mV (I _) rfl) <| AQ 1 rfl zh11 (run_indexAddrA underlying33 sizeOf31 e2_7 rfl (by omega)) <| AT 2 rfl zh11 (fun w hS => run_ld underlying31 rfl rfl (hS.cell (i := 1) rfl (elC_at _ (by omega)))) <| AQ 3 rfl zh11 (mV (I _) rfl) <| AQ 4 rfl zh11 (run_indexAddrA underlying33 sizeOf31 e3_7 rfl (by omega)) <| AT 5 rfl zh11 (fun w hS => run_ld underlying31 rfl rfl (hS.cell (i := 0) rfl (elC_at _ (by omega)))) <| A1 6 <| AO.callP rfl gnone rfl hH11 sR (c_mask_Sub _ _  _) (run_call2 call53 rfl rfl) <| fun w12 hH13 => AQ 7 rfl (hH13.sub sR) (run_not rfl) <| AD <| CW.cond rfl (fun h16 => ?_) (fun h16 => ?_)
  ·refine SR <| va (v := B false) rfl <| RL.nil <| CW.ret <| outP1 Tryd.results35 (congrArg B ?_) hH13.below
   exact (leq_no h0 ‹_› (nt ‹_›)).symm
  ·refine CW.skip <| CW.region <| V (run_add e6_7 rfl (by omega)) <| mI rfl <| RL.nil <| ?_
   refine ⟨k + 1, ?_, fr7.u4.u4.u4.u1, hH13, (congrArg I (by rfl)), ?_, ?_, ?_⟩
   ·((try dsimp only); omega)
   ·omega
   ·omega
   ·exact fun j u v => if e : j = k then e ▸ nf ‹_› else hf j u (by omega)
 ·refine CW.exit (id := 0) rfl <| SR <| va (v := B true) rfl <| RL.nil <| CW.ret <| outP1 Tryd.results35 (congrArg B ?_) hH7.below
  exact (leq_yes ‹_› hf).symm
theorem c_shape_Join (s : Shp) (a b : El) (w : World) (hs : ShpV (Kw w) s) (hT : Tab w) : Calls Tryd.prog 63 #[.agg (shpC s), .agg (elC a), .agg (elC b)] w (Pure (.agg (elC (joinS s.sh a b))) w) := by
 have hsl := sh_len s
 have hm := hs.facs.sl.small
 unfold maxLen at hm
 refine enter Tryd.func63 rfl Tryd.ntmps63 rfl <| have hH := Hp.start w; SR <| RL.new rfl hH (f := fun b => (.pointer (some ⟨b, 0, none⟩))) (run_box (v := .agg _) rfl) <| fun b3 w1 hH2 => RL.new rfl hH2 (f := fun b => (.pointer (some ⟨b, 0, none⟩))) (run_box (v := .agg _) rfl) <| fun b6 w4 hH5 => RL.new rfl hH5 (f := fun b => (.pointer (some ⟨b, 0, none⟩))) (run_box (v := .agg _) rfl) <| fun b9 w7 hH8 => RL.new rfl hH8 (f := fun b => (.pointer (some ⟨b, 0, none⟩))) (run_alloc zero_el) <| fun b12 w10 hH11 => RL.nil <| CW.seq <| SR <| vm (v := I 0) rfl <| RL.nil <| CW.block <| CW.loop (G := Int × El) (fun ⟨k, e1⟩ s' w' => (Fr (rg 7 42 []) _ s') ∧ (Hp w w' (_ :: _ :: .blk b6 (.cells (elC e1) 33 (0, 0)) :: _)) ∧ (s' 8 = I k) ∧ (0 ≤ k) ∧ (k ≤ 8) ∧ (e1 = mixE (joinS s.sh a b) a k)) (fun ⟨k, e1⟩ => (8 - k).toNat) ((0, a)) ⟨Fr.refl _ _, hH11, rfl, (by omega), (by omega), (mix_zero _ _).symm⟩ <| ?_
 rintro ⟨k, e1⟩ sg13 w13 ⟨fr13, hH13, e8_13, h0, hk, hr⟩
 have e3_13 := fr13.pp 3 rfl rfl
 have e4_13 := fr13.pp 4 rfl rfl
 have e5_13 := fr13.pp 5 rfl rfl
 have e6_13 := fr13.pp 6 rfl rfl
 refine SR <| V (run_lss e8_13 rfl) <| RL.nil <| CW.seq <| CW.condP rfl (fun h15 => ?_) (fun h15 => ?_)
 ·refine CW.skip <| CW.seq <| CW.block <| SR <| vm e8_13 <| aI rfl <| RL.nil <| CW.seq <| SR <| mI rfl <| V (fA underlying70 1 rfl sizeOf68 e3_13) <| V (run_ld underlying68 rfl rfl (hH13.cell (i := 3) rfl rfl)) <| V (run_lenSl (hs.facs.sl.hp hH13) rfl underlying68 rfl) <| V (run_lss rfl rfl) <| mB rfl <| RL.splitP (dj := 16) rfl (fun h17 => ?_) (fun h17 => ?_)
  ·refine gT rfl (bT h17) <| V (fA underlying70 1 rfl sizeOf68 e3_13) <| gT rfl (bT h17) <| V (run_ld underlying68 rfl rfl (hH13.cell (i := 3) rfl rfl)) <| gT rfl (bT h17) <| mI rfl <| gT rfl (bT h17) <| V (run_indexAddrS (hs.facs.sl.hp hH13) underlying68 sizeOf67 rfl rfl (by omega)) <| gT rfl (bT h17) <| V (fA underlying67 0 rfl sizeOf3 rfl) <| gT rfl (bT h17) <| V (run_ldE1 (dv := fac0) facL_len (hs.facs.sl.hp hH13) underlying3 rfl rfl (by omega) rfl) <| gT rfl (bT h17) <| V (run_eql rfl rfl) <| V (run_pickT (bT h17) (v := B _) rfl) <| RL.nil <| CW.condP rfl (fun h19 => ?_) (fun h19 => ?_)
   ·refine CW.seq <| CW.regionS (by kernel_rfl) hH13 (sP (sP (sQ sR))) <| fun w20 hH21 => have zh21 := hH21.sub (sP (sP (sQ sR))); AQ 0 rfl zh21 (mV (I _) rfl) <| AQ 1 rfl zh21 (fA underlying70 1 rfl sizeOf68 e3_13) <| AT 2 rfl zh21 (fun w hS => run_ld underlying68 rfl rfl (hS.cell (i := 2) rfl rfl)) <| AQ 3 rfl zh21 (mV (I _) rfl) <| AT 4 rfl zh21 (fun w hS => run_indexAddrS (hs.facs.sl.hp hS) underlying68 sizeOf67 rfl rfl (by omega)) <| AQ 5 rfl zh21 (fA underlying67 2 rfl sizeOf65 rfl) <| AT 6 rfl zh21 (fun w hS => run_ldFR (hs.facs.sl.hp hS) underlying65 rfl rfl rfl (by omega)) <| AQ 7 rfl zh21 (mV (I _) rfl) <| AQ 8 rfl zh21 (run_indexAddrA underlying33 sizeOf31 e4_13 rfl (by omega)) <| AQ 10 rfl zh21 (mV (I _) rfl) <| AQ 11 rfl zh21 (run_indexAddrA underlying33 sizeOf31 e5_13 rfl (by omega)) <| AT 12 rfl zh21 (fun w hS => run_ld underlying31 rfl rfl (hS.cell (i := 1) rfl (elC_at _ (by omega)))) <| A1 9 <| AO.read rfl gnone rfl hH21 (sP (sP (sQ sR))) (run_ld underlying31 rfl rfl (hH21.cell (i := 2) rfl (elC_at _ (by omega)))) <| A1 13 <| AO.callP rfl gnone rfl hH21 (sP (sP (sQ sR))) (c_hasse_Raise _ _ _  _ (hT.hp hH21)) (run_call3 call73 rfl rfl rfl) <| fun w24 hH25 => AQ 14 rfl (hH25.sub (sP (sP (sQ sR)))) (run_indexAddrA underlying33 sizeOf31 e4_13 rfl (by omega)) <| A1 15 <| AO.set rfl gnone hH25 (j := 2) rfl (sP (sP (sQ sR))) (run_st rfl rfl (v := U _) rfl rfl rfl (hH25.blk (i := 2) rfl) (by rw [elC_size]; omega)) <| fun w28 hH29 => ?_
    simp only [z2] at hH29
    rw [elC_put] at hH29
    refine AD <| CW.exit (id := 1) rfl <| CW.region <| V (run_add e8_13 rfl (by omega)) <| mI rfl <| RL.nil <| ?_
    refine ⟨(k + 1, _), ?_, fr13.u4.u4.u4.u4.u4.u4.u4.u4.u1.u1, hH29, (congrArg I (by rfl)), ?_, ?_, ?_⟩
    ·((try dsimp only); omega)
    ·omega
    ·omega
    ·exact join_put4 hr h0 ‹_› ‹_›
   ·refine CW.skip <| CW.regionS (by kernel_rfl) hH13 (sP (sP (sQ sR))) <| fun w30 hH31 => have zh31 := hH31.sub (sP (sP (sQ sR))); AQ 0 rfl zh31 (mV (I _) rfl) <| AQ 1 rfl zh31 (run_indexAddrA underlying33 sizeOf31 e4_13 rfl (by omega)) <| AQ 3 rfl zh31 (mV (I _) rfl) <| AQ 4 rfl zh31 (run_indexAddrA underlying33 sizeOf31 e5_13 rfl (by omega)) <| AT 5 rfl zh31 (fun w hS => run_ld underlying31 rfl rfl (hS.cell (i := 1) rfl (elC_at _ (by omega)))) <| A1 2 <| AO.read rfl gnone rfl hH31 (sP (sP (sQ sR))) (run_ld underlying31 rfl rfl (hH31.cell (i := 2) rfl (elC_at _ (by omega)))) <| AQ 6 rfl zh31 (run_orU rfl rfl) <| AQ 7 rfl zh31 (run_indexAddrA underlying33 sizeOf31 e4_13 rfl (by omega)) <| A1 8 <| AO.set rfl gnone hH31 (j := 2) rfl (sP (sP (sQ sR))) (run_st rfl rfl (v := U _) rfl rfl rfl (hH31.blk (i := 2) rfl) (by rw [elC_size]; omega)) <| fun w36 hH37 => ?_
    simp only [z2] at hH37
    rw [elC_put] at hH37
    refine AD <| CW.region <| V (run_add e8_13 rfl (by omega)) <| mI rfl <| RL.nil <| ?_
    refine ⟨(k + 1, _), ?_, fr13.u4.u4.u4.u4.u4.u4.u1.u1.u1, hH37, (congrArg I (by rfl)), ?_, ?_, ?_⟩
    ·((try dsimp only); omega)
    ·omega
    ·omega
    ·exact join_putO hr h0 (fun hc => absurd hc.1 (by omega))
  ·refine gF rfl (bF h17) <| gF rfl (bF h17) <| gF rfl (bF h17) <| gF rfl (bF h17) <| gF rfl (bF h17) <| gF rfl (bF h17) <| gF rfl (bF h17) <| V (run_pickF (bF h17) (v := B false) rfl) <| RL.nil <| CW.condF rfl <| CW.skip <| CW.regionS (by kernel_rfl) hH13 (sP (sP (sQ sR))) <| fun w38 hH39 => have zh39 := hH39.sub (sP (sP (sQ sR))); AQ 0 rfl zh39 (mV (I _) rfl) <| AQ 1 rfl zh39 (run_indexAddrA underlying33 sizeOf31 e4_13 rfl (by omega)) <| AQ 3 rfl zh39 (mV (I _) rfl) <| AQ 4 rfl zh39 (run_indexAddrA underlying33 sizeOf31 e5_13 rfl (by omega)) <| AT 5 rfl zh39 (fun w hS => run_ld underlying31 rfl rfl (hS.cell (i := 1) rfl (elC_at _ (by omega)))) <| A1 2 <| AO.read rfl gnone rfl hH39 (sP (sP (sQ sR))) (run_ld underlying31 rfl rfl (hH39.cell (i := 2) rfl (elC_at _ (by omega)))) <| AQ 6 rfl zh39 (run_orU rfl rfl) <| AQ 7 rfl zh39 (run_indexAddrA underlying33 sizeOf31 e4_13 rfl (by omega)) <| A1 8 <| AO.set rfl gnone hH39 (j := 2) rfl (sP (sP (sQ sR))) (run_st rfl rfl (v := U _) rfl rfl rfl (hH39.blk (i := 2) rfl) (by rw [elC_size]; omega)) <| fun w44 hH45 => ?_
   simp only [z2] at hH45
   rw [elC_put] at hH45
   refine AD <| CW.region <| V (run_add e8_13 rfl (by omega)) <| mI rfl <| RL.nil <| ?_
   refine ⟨(k + 1, _), ?_, fr13.u4.u4.u4.u4.u4.u4.u1.u1.u1, hH45, (congrArg I (by rfl)), ?_, ?_, ?_⟩
   ·((try dsimp only); omega)
   ·omega
   ·omega
   ·exact join_putO hr h0 (fun hc => absurd hc.1 (by omega))
 ·refine CW.exit (id := 0) rfl <| SR <| V (run_ldEl underlying33 rfl rfl e4_13 (hH13.blk (i := 2) rfl)) <| RL.set hH13 (i := 0) rfl (run_stEl rfl e6_13 rfl (hH13.blk (i := 0) rfl)) <| fun w46 hH47 => ?_
  simp only [z2] at hH47
  refine RL.nil <| CW.ret <| outCg Tryd.results63 e6_13 hH47 (i := 0) rfl underlying33 rfl (by rw [elC_size]; rfl) ⟨?_, hH47.below⟩
  (exact congrArg Value.agg (elC_congr (by rw [hr]; exact mix_all ‹_›)))
theorem c_shape_Meet (a b : El) (w : World) : Calls Tryd.prog 29 #[.agg (elC a), .agg (elC b)] w (Pure (.agg (elC (meetE a b))) w) := by
 refine enter Tryd.func29 rfl Tryd.ntmps29 rfl <| have hH := Hp.start w; SR <| RL.new rfl hH (f := fun b => (.pointer (some ⟨b, 0, none⟩))) (run_box (v := .agg _) rfl) <| fun b3 w1 hH2 => RL.new rfl hH2 (f := fun b => (.pointer (some ⟨b, 0, none⟩))) (run_box (v := .agg _) rfl) <| fun b6 w4 hH5 => RL.new rfl hH5 (f := fun b => (.pointer (some ⟨b, 0, none⟩))) (run_alloc zero_el) <| fun b9 w7 hH8 => RL.nil <| CW.seq <| SR <| vm (v := I 0) rfl <| RL.nil <| CW.block <| CW.loop (G := Int × El) (fun ⟨k, e1⟩ s' w' => (Fr (rg 5 13 []) _ s') ∧ (Hp w w' (_ :: _ :: .blk b3 (.cells (elC e1) 33 (0, 0)) :: _)) ∧ (s' 6 = I k) ∧ (0 ≤ k) ∧ (k ≤ 8) ∧ (e1 = mixE (meetE a b) a k)) (fun ⟨k, e1⟩ => (8 - k).toNat) ((0, a)) ⟨Fr.refl _ _, hH8, rfl, (by omega), (by omega), (mix_zero _ _).symm⟩ <| ?_
 rintro ⟨k, e1⟩ sg10 w10 ⟨fr10, hH10, e6_10, h0, hk, hr⟩
 have e2_10 := fr10.pp 2 rfl rfl
 have e3_10 := fr10.pp 3 rfl rfl
 have e4_10 := fr10.pp 4 rfl rfl
 refine SR <| V (run_lss e6_10 rfl) <| RL.nil <| CW.seq <| CW.condP rfl (fun h12 => ?_) (fun h12 => ?_)
 ·refine CW.skip <| CW.seq <| CW.block <| SR <| vm e6_10 <| aI rfl <| RL.nil <| CW.regionS (by kernel_rfl) hH10 (sP (sP (sQ sR))) <| fun w13 hH14 => have zh14 := hH14.sub (sP (sP (sQ sR))); AQ 0 rfl zh14 (mV (I _) rfl) <| AQ 1 rfl zh14 (run_indexAddrA underlying33 sizeOf31 e2_10 rfl (by omega)) <| AQ 3 rfl zh14 (mV (I _) rfl) <| AQ 4 rfl zh14 (run_indexAddrA underlying33 sizeOf31 e3_10 rfl (by omega)) <| AT 5 rfl zh14 (fun w hS => run_ld underlying31 rfl rfl (hS.cell (i := 1) rfl (elC_at _ (by omega)))) <| A1 2 <| AO.read rfl gnone rfl hH14 (sP (sP (sQ sR))) (run_ld underlying31 rfl rfl (hH14.cell (i := 2) rfl (elC_at _ (by omega)))) <| AQ 6 rfl zh14 (run_andU rfl rfl) <| AQ 7 rfl zh14 (run_indexAddrA underlying33 sizeOf31 e2_10 rfl (by omega)) <| A1 8 <| AO.set rfl gnone hH14 (j := 2) rfl (sP (sP (sQ sR))) (run_st rfl rfl (v := U _) rfl rfl rfl (hH14.blk (i := 2) rfl) (by rw [elC_size]; omega)) <| fun w19 hH20 => ?_
  simp only [z2] at hH20
  rw [elC_put] at hH20
  refine AD <| CW.region <| V (run_add e6_10 rfl (by omega)) <| mI rfl <| RL.nil <| ?_
  refine ⟨(k + 1, _), ?_, fr10.u4.u4.u4.u1, hH20, (congrArg I (by rfl)), ?_, ?_, ?_⟩
  ·((try dsimp only); omega)
  ·omega
  ·omega
  ·exact meet_put hr h0
 ·refine CW.exit (id := 0) rfl <| SR <| V (run_ldEl underlying33 rfl rfl e2_10 (hH10.blk (i := 2) rfl)) <| RL.set hH10 (i := 0) rfl (run_stEl rfl e4_10 rfl (hH10.blk (i := 0) rfl)) <| fun w21 hH22 => ?_
  simp only [z2] at hH22
  refine RL.nil <| CW.ret <| outCg Tryd.results29 e4_10 hH22 (i := 0) rfl underlying33 rfl (by rw [elC_size]; rfl) ⟨?_, hH22.below⟩
  (exact congrArg Value.agg (elC_congr (by rw [hr]; exact mix_all ‹_›)))
theorem c_clearancelaw07_Big (s : Shp) (w : World) (hs : ShpV (Kw w) s) : Calls Tryd.prog 40 #[.agg (shpC s)] w (Pure (B (bigS s.sh)) w) := by
 have hsl := sh_len s
 have hm := hs.facs.sl.small
 unfold maxLen at hm
 refine enter Tryd.func40 rfl Tryd.ntmps40 rfl <| have hH := Hp.start w; SR <| RL.new rfl hH (f := fun b => (.pointer (some ⟨b, 0, none⟩))) (run_box (v := .agg _) rfl) <| fun b3 w1 hH2 => va (v := B false) rfl <| RL.nil <| CW.seq <| SR <| V (fA underlying70 1 rfl sizeOf68 rfl) <| V (run_ld underlying68 rfl rfl (hH2.cell (i := 0) rfl rfl)) <| V (run_lenSl (hs.facs.sl.hp hH2) rfl underlying68 rfl) <| V (run_gtr rfl rfl) <| RL.nil <| CW.condP rfl (fun h5 => ?_) (fun h5 => ?_)
 ·refine SR <| va (v := B true) rfl <| RL.nil <| CW.ret <| outP1 Tryd.results40 (congrArg B ?_) hH2.below
  exact (big_1 (s := s.sh) (by omega)).symm
 ·refine CW.skip <| CW.seq <| SR <| va (v := I 0) rfl <| RL.nil <| CW.block <| CW.loop (G := Int) (fun k s' w' => (Fr (rg 2 4 (rg 10 30 [])) _ s') ∧ (Hp w w' _) ∧ (s' 3 = I k) ∧ (0 ≤ k) ∧ (k ≤ s.facs.length) ∧ (∀ j : Int, 0 ≤ j → j < k → bigN (s.facs.getD j.toNat fac0).names = false)) (fun k => (s.facs.length - k).toNat) (0) ⟨Fr.refl _ _, hH2, rfl, (by omega), (by omega), fun j a b => absurd b (by omega)⟩ <| ?_
  rintro k sg6 w6 ⟨fr6, hH6, e3_6, h0, hk, hg⟩
  have e1_6 := fr6.pp 1 rfl rfl
  refine CW.seq <| SR <| vm e3_6 <| V (fA underlying70 1 rfl sizeOf68 e1_6) <| V (run_ld underlying68 rfl rfl (hH6.cell (i := 0) rfl rfl)) <| V (run_lenSl (hs.facs.sl.hp hH6) rfl underlying68 rfl) <| V (run_lss rfl rfl) <| RL.nil <| CW.condP rfl (fun h8 => ?_) (fun h8 => ?_)
  ·refine CW.skip <| CW.seq <| CW.block <| SR <| V (fA underlying70 1 rfl sizeOf68 e1_6) <| V (run_ld underlying68 rfl rfl (hH6.cell (i := 0) rfl rfl)) <| vm e3_6 <| V (run_indexAddrS (hs.facs.sl.hp hH6) underlying68 sizeOf67 rfl rfl (by omega)) <| V (run_ldE (dv := fac0) facL_len (hs.facs.sl.hp hH6) underlying67 rfl rfl rfl (by omega)) <| RL.new rfl hH6 (f := fun b => (.pointer (some ⟨b, 0, none⟩))) (run_alloc zero_fac) <| fun b11 w9 hH10 => RL.set hH10 (i := 0) rfl (run_stFac (hs.at (by omega) (by omega)) rfl rfl rfl (hH10.blk (i := 0) rfl)) <| fun w12 hH13 => ?_
   simp only [z2] at hH13
   refine RL.nil <| CW.seq <| SR <| V (fA underlying67 1 rfl sizeOf62 rfl) <| V (run_ld underlying62 rfl rfl (hH13.cell (i := 0) rfl rfl)) <| V (run_lenSl ((hs.at (by omega) (by omega)).names.sl.hp hH13) rfl underlying62 rfl) <| V (run_gtr rfl rfl) <| RL.nil <| CW.condP rfl (fun h15 => ?_) (fun h15 => ?_)
   ·refine SR <| va (v := B true) rfl <| RL.nil <| CW.ret <| outP1 Tryd.results40 (congrArg B ?_) hH13.below
    exact (big_2 (s := s.sh) (k := k) h0 (by omega) (by rw [sh_get]; (exact bigN_1 (by show 70 < (s.facs.getD k.toNat fac0).names.length; omega)))).symm
   ·refine CW.skip <| SR <| va (v := I 0) rfl <| RL.nil <| CW.block <| have hnb : (s.facs.getD k.toNat fac0).names.length ≤ 70 := (by omega); CW.loop (G := Int) (fun i s' w' => (Fr (2 :: (5 :: (rg 26 14 []))) _ s') ∧ (Hp w w' _) ∧ (s' 5 = I i) ∧ (0 ≤ i) ∧ (i ≤ (s.facs.getD k.toNat fac0).names.length) ∧ (∀ j : Int, 0 ≤ j → j < i → ¬ 40 < ((s.facs.getD k.toNat fac0).names.getD j.toNat tx0).size)) (fun i => ((s.facs.getD k.toNat fac0).names.length - i).toNat) (0) ⟨Fr.refl _ _, hH13, rfl, (by omega), (by omega), fun j a b => absurd b (by omega)⟩ <| ?_
    rintro i sg16 w16 ⟨fr16, hH16, e5_16, i0, i1, hn⟩
    have e3_16 := (fr16 3 rfl).trans e3_6
    have e4_16 := fr16.pp 4 rfl rfl
    refine CW.seq <| SR <| vm e5_16 <| V (fA underlying67 1 rfl sizeOf62 e4_16) <| V (run_ld underlying62 rfl rfl (hH16.cell (i := 0) rfl rfl)) <| V (run_lenSl ((hs.at (by omega) (by omega)).names.sl.hp hH16) rfl underlying62 rfl) <| V (run_lss rfl rfl) <| RL.nil <| CW.condP rfl (fun h18 => ?_) (fun h18 => ?_)
    ·refine CW.skip <| CW.seq <| CW.block <| SR <| V (fA underlying67 1 rfl sizeOf62 e4_16) <| V (run_ld underlying62 rfl rfl (hH16.cell (i := 0) rfl rfl)) <| vm e5_16 <| V (run_indexAddrS ((hs.at (by omega) (by omega)).names.sl.hp hH16) underlying62 sizeOf9 rfl rfl (by omega)) <| V (run_ld underlying9 rfl rfl (((hs.at (by omega) (by omega)).names.sl.hp hH16).cell _ _ (txL_at (by omega)))) <| V (run_lenStr rfl underlying9 rfl) <| V (run_gtr rfl rfl) <| RL.nil <| CW.condP rfl (fun h20 => ?_) (fun h20 => ?_)
     ·refine SR <| va (v := B true) rfl <| RL.nil <| CW.ret <| outP1 Tryd.results40 (congrArg B ?_) hH16.below
      exact (big_2 (s := s.sh) (k := k) h0 (by omega) (by rw [sh_get]; (exact bigN_2 i0 ‹_› (by show 40 < ((s.facs.getD k.toNat fac0).names.getD i.toNat tx0).size; omega)))).symm
     ·refine CW.skip <| CW.region <| vm e5_16 <| V (run_add rfl rfl (by omega)) <| aI rfl <| RL.nil <| ?_
      refine ⟨i + 1, ?_, fr16.u4.u4.u4.u1.u1.u1, hH16, (congrArg I (by rfl)), ?_, ?_, ?_⟩
      ·((try dsimp only); omega)
      ·omega
      ·omega
      ·exact fun j a b => if e : j = i then e ▸ (by omega) else hn j a (by omega)
    ·refine CW.exit (id := 2) rfl <| CW.region <| vm e3_16 <| V (run_add rfl rfl (by omega)) <| aI rfl <| RL.nil <| ?_
     refine ⟨k + 1, ?_, (((fr6.u4.u4.u4.u4).t fr16 rfl)).u4.u4, (hH16.sub (sQ sR)), (congrArg I (by rfl)), ?_, ?_, ?_⟩
     ·((try dsimp only); omega)
     ·omega
     ·omega
     ·exact fun j a b => if e : j = k then e ▸ bigN_no (by omega) ‹¬ i < _› hn else hg j a (by omega)
  ·refine CW.exit (id := 0) rfl <| SR <| va (v := B false) rfl <| RL.nil <| CW.ret <| outP1 Tryd.results40 (congrArg B ?_) hH6.below
   exact (big_no (s := s.sh) (k := k) (by omega) (by omega) fun j a b => by rw [sh_get]; exact hg j a b).symm
theorem c_assign_place (v : Value) (l : List ValR) (f : Tx) (w : World) (hs : Sl w v 9 l.length (l.flatMap valL)) : Calls Tryd.prog 50 #[v, S f] w (Pure (I (vfind l f)) w) := by
 have hm := hs.small
 unfold maxLen at hm
 refine enter Tryd.func50 rfl Tryd.ntmps50 rfl <| have hH := Hp.start w; SR <| va (v := I 0) rfl <| RL.nil <| CW.seq <| SR <| ?_
 refine V (run_move (by conv => lhs; whnf)) ?_
 refine V (run_lenSl (hs.hp hH) rfl underlying40 rfl) <| vm (v := I 0) rfl <| RL.nil <| CW.block <| CW.loop (G := Int) (fun k s' w' => (Fr (4 :: 5 :: (rg 8 12 [])) _ s') ∧ (Hp w w' _) ∧ (s' 8 = I k) ∧ (0 ≤ k) ∧ (k ≤ l.length) ∧ (∀ j : Int, 0 ≤ j → j < k → decide ((l.getD j.toNat val0).name = f) = false)) (fun k => (l.length - k).toNat) (0) ⟨Fr.refl _ _, hH, rfl, (by omega), (by omega), fun j a b => absurd b (by omega)⟩ <| ?_
 rintro k sg1 w1 ⟨fr1, hH1, e8_1, h0, hk, hg⟩
 have e0_1 := (fr1 0 rfl).trans (by conv => lhs; whnf)
 have e1_1 := fr1.ss 1 rfl rfl
 have e7_1 := fr1.ii 7 rfl rfl
 refine SR <| V (run_lss e8_1 e7_1) <| RL.nil <| CW.seq <| CW.condP rfl (fun h3 => ?_) (fun h3 => ?_)
 ·refine CW.skip <| CW.seq <| CW.block <| SR <| vm e8_1 <| aI rfl <| RL.nil <| SR <| vm e0_1 <| mI rfl <| V (run_indexAddrS (hs.hp hH1) underlying40 sizeOf61 rfl rfl (by omega)) <| V (fA underlying61 0 rfl sizeOf9 rfl) <| V (run_ldE1 (dv := val0) (off := 0) valL_len (hs.hp hH1) underlying9 rfl rfl (by omega) rfl) <| vm e1_1 <| V (run_eqlS rfl rfl) <| RL.nil <| CW.condP rfl (fun h5 => ?_) (fun h5 => ?_)
  ·refine SR <| mI rfl <| aI rfl <| RL.nil <| CW.ret <| outP1 Tryd.results50 (congrArg I ?_) hH1.below
   exact (find_yes h0 ‹_› (decide_eq_true ‹_›) hg).symm
  ·refine CW.skip <| CW.region <| V (run_add e8_1 rfl (by omega)) <| mI rfl <| RL.nil <| ?_
   refine ⟨k + 1, ?_, fr1.u4.u4.u4, hH1, (congrArg I (by rfl)), ?_, ?_, ?_⟩
   ·((try dsimp only); omega)
   ·omega
   ·omega
   ·exact fun j a b => if e : j = k then e ▸ decide_eq_false ‹_› else hg j a (by omega)
 ·refine CW.exit (id := 0) rfl <| SR <| va (v := I (-1)) rfl <| RL.nil <| CW.ret <| outP1 Tryd.results50 (congrArg I ?_) hH1.below
  exact (find_no fun j a b => hg j a (by omega)).symm
theorem c_assign_Get (v : Value) (l : List ValR) (f : Tx) (w : World) (hs : Sl w v 9 l.length (l.flatMap valL)) : Calls Tryd.prog 31 #[v, S f] w (Pure (.tuple #[.agg (elC (getF l f).1), B (getF l f).2]) w) := by
 have hm := hs.small
 unfold maxLen at hm
 have hvi := @vfind_in l f
 refine enter Tryd.func31 rfl Tryd.ntmps31 rfl <| have hH := Hp.start w; SR <| RL.new rfl hH (f := fun b => (.pointer (some ⟨b, 0, none⟩))) (run_alloc zero_el) <| fun b3 w1 hH2 => va (v := B false) rfl <| RL.nil <| SR <| ?_
 refine V (run_move (by conv => lhs; whnf)) ?_
 refine vm (v := .string _) rfl <| RL.callP rfl hH2 (c_assign_place _ _ _  _ (hs.hp hH2)) (run_call2 call50 rfl rfl) <| fun w4 hH5 => aI rfl <| RL.nil <| CW.seq <| SR <| mI rfl <| V (run_lss rfl rfl) <| RL.nil <| CW.condP rfl (fun h7 => ?_) (fun h7 => ?_)
 ·refine SR <| V (run_bld (vs := []) rfl (built_el0)) <| RL.set hH5 (i := 0) rfl (run_stEl rfl rfl rfl (hH5.blk (i := 0) rfl)) <| fun w8 hH9 => ?_
  simp only [z2] at hH9
  refine va (v := B false) rfl <| RL.nil <| CW.ret <| outCT Tryd.results31 rfl rfl hH9 (i := 0) rfl underlying33 rfl (by rw [elC_size]; rfl) ⟨?_, hH9.below⟩
  exact get_tn ‹_›
 ·refine CW.skip <| SR <| ?_
  refine V (run_move (by conv => lhs; whnf)) ?_
  refine mI rfl <| V (run_indexAddrS (hs.hp hH5) underlying40 sizeOf61 rfl rfl (by (have := hvi ‹_›; omega))) <| V (fA underlying61 1 rfl sizeOf33 rfl) <| V (run_ldVE (hs.hp hH5) underlying33 rfl rfl rfl (by (have := hvi ‹_›; omega))) <| RL.set hH5 (i := 0) rfl (run_stEl rfl rfl rfl (hH5.blk (i := 0) rfl)) <| fun w10 hH11 => ?_
  simp only [z2] at hH11
  refine va (v := B true) rfl <| RL.nil <| CW.ret <| outCT Tryd.results31 rfl rfl hH11 (i := 0) rfl underlying33 rfl (by rw [elC_size]; rfl) ⟨?_, hH11.below⟩
  exact get_ty ‹_›
theorem c_name_Less (a b : Tx) (w : World) : Calls Tryd.prog 49 #[S a, S b] w (Pure (B (lessT a b)) w) := by
 refine enter Tryd.func49 rfl Tryd.ntmps49 rfl <| have hH := Hp.start w; SR <| va (v := B false) rfl <| RL.nil <| SR <| vm (v := .string _) rfl <| vm (v := .string _) rfl <| V (run_lssS rfl rfl) <| aB rfl <| RL.nil <| CW.ret <| outP1 Tryd.results49 (congrArg B ?_) hH.below
 rfl
theorem c_assign_ordered (v : Value) (l : List ValR) (w : World) (hs : Sl w v 9 l.length (l.flatMap valL)) : Calls Tryd.prog 27 #[v] w (Pure (B (orderedF l)) w) := by
 have hm := hs.small
 unfold maxLen at hm
 refine enter Tryd.func27 rfl Tryd.ntmps27 rfl <| have hH := Hp.start w; SR <| va (v := B false) rfl <| RL.nil <| CW.seq <| SR <| ?_
 refine V (run_move (by conv => lhs; whnf)) ?_
 refine V (run_lenSl (hs.hp hH) rfl underlying40 rfl) <| vm (v := I 0) rfl <| RL.nil <| CW.block <| CW.loop (G := Int) (fun k s' w' => (Fr (rg 2 3 (rg 7 26 [])) _ s') ∧ (Hp w w' _) ∧ (s' 7 = I k) ∧ (0 ≤ k) ∧ (k ≤ l.length) ∧ (∀ j : Int, 0 ≤ j → j < k → (nameR (l.getD j.toNat val0).name && (decide (j ≤ 0) || lessT (l.getD (j - 1).toNat val0).name (l.getD j.toNat val0).name)) = true)) (fun k => (l.length - k).toNat) (0) ⟨Fr.refl _ _, hH, rfl, (by omega), (by omega), fun j a b => absurd b (by omega)⟩ <| ?_
 rintro k sg1 w1 ⟨fr1, hH1, e7_1, h0, hk, hg⟩
 have e0_1 := (fr1 0 rfl).trans (by conv => lhs; whnf)
 have e5_1 := (fr1 5 rfl).trans (by conv => lhs; whnf)
 have e6_1 := fr1.ii 6 rfl rfl
 refine SR <| V (run_lss e7_1 e6_1) <| RL.nil <| CW.seq <| CW.condP rfl (fun h3 => ?_) (fun h3 => ?_)
 ·refine CW.skip <| CW.seq <| CW.block <| SR <| vm e7_1 <| V (run_indexAddrS (hs.hp hH1) underlying40 sizeOf61 e5_1 e7_1 (by omega)) <| V (run_ldE (dv := val0) valL_len (hs.hp hH1) underlying61 rfl rfl rfl (by omega)) <| RL.new rfl hH1 (f := fun b => (.pointer (some ⟨b, 0, none⟩))) (run_alloc zero_val) <| fun b6 w4 hH5 => aI rfl <| RL.set hH5 (i := 0) rfl (run_stW (c' := (valL _).toArray) rfl rfl rfl (valL_one _) (hH5.blk (i := 0) rfl) rfl) <| fun w7 hH8 => ?_
  simp only [z2] at hH8
  refine RL.nil <| CW.seq <| CW.regionD (by kernel_rfl) hH8 <| fun w9 hH10 => AQ 0 rfl (hH10.sub sR) (fA underlying61 0 rfl sizeOf9 rfl) <| AT 1 rfl (hH10.sub sR) (fun w hS => run_ld underlying9 rfl rfl (hS.cell (i := 0) rfl (v := .string _) rfl)) <| A1 2 <| AO.callP rfl gnone rfl hH10 sR (c_name_Right _  _) (run_call1 call41 rfl) <| fun w11 hH12 => have zh12 := hH12.sub sR; AQ 3 rfl zh12 (run_not rfl) <| AQ 4 rfl zh12 (mV (B _) rfl) <| AN.split (dj := 16) rfl (fun h15 => ?_) (fun h15 => ?_)
  ·refine AK 5 rfl rfl (bR (c := true) h15) (hH12.sub sR) <| AK 6 rfl rfl (bR (c := true) h15) (hH12.sub sR) <| AK 7 rfl rfl (bR (c := true) h15) (hH12.sub sR) <| AU 8 rfl rfl rfl (hH12.sub sR) <| AU 9 rfl rfl rfl (hH12.sub sR) <| AU 10 rfl rfl rfl (hH12.sub sR) <| AU 11 rfl rfl rfl (hH12.sub sR) <| AU 12 rfl rfl rfl (hH12.sub sR) <| AU 13 rfl rfl rfl (hH12.sub sR) <| AU 14 rfl rfl rfl (hH12.sub sR) <| AU 15 rfl rfl rfl (hH12.sub sR) <| AU 16 rfl rfl rfl (hH12.sub sR) <| AU 17 rfl rfl rfl (hH12.sub sR) <| AK 18 rfl rfl (bR (c := true) h15) (hH12.sub sR) <| AQ 19 rfl zh12 (run_pickT (bR (c := true) h15) (v := B true) rfl) <| AD <| CW.condT rfl <| SR <| va (v := B false) rfl <| RL.nil <| CW.ret <| outP1 Tryd.results27 (congrArg B ?_) hH12.below
   exact (ordered_no1 h0 ‹k < _› (nt ‹(!nameR _) = true›)).symm
  ·refine AG 5 rfl rfl (bR (c := false) h15) (hH12.sub sR) (fun w hS => mV (I _) rfl) <| AG 6 rfl rfl (bR (c := false) h15) (hH12.sub sR) (fun w hS => run_gtr rfl rfl) <| AG 7 rfl rfl (bR (c := false) h15) (hH12.sub sR) (fun w hS => mV (B _) rfl) <| AN.splitP (dj := 19) rfl (fun h17 => ?_) (fun h17 => ?_)
   ·refine AG 8 rfl rfl (bT h17) (hH12.sub sR) (fun w hS => run_move e0_1) <| AG 9 rfl rfl (bT h17) (hH12.sub sR) (fun w hS => mV (I _) rfl) <| AG 10 rfl rfl (bT h17) (hH12.sub sR) (fun w hS => run_sub rfl rfl (by omega)) <| AG 11 rfl rfl (bT h17) (hH12.sub sR) (fun w hS => run_indexAddrS (hs.hp hS) underlying40 sizeOf61 rfl rfl (by omega)) <| AG 12 rfl rfl (bT h17) (hH12.sub sR) (fun w hS => fA underlying61 0 rfl sizeOf9 rfl) <| AG 13 rfl rfl (bT h17) (hH12.sub sR) (fun w hS => run_ldE1 (dv := val0) (off := 0) valL_len (hs.hp hS) underlying9 rfl rfl (by omega) rfl) <| AG 14 rfl rfl (bT h17) (hH12.sub sR) (fun w hS => fA underlying61 0 rfl sizeOf9 rfl) <| AG 15 rfl rfl (bT h17) (hH12.sub sR) (fun w hS => run_ld underlying9 rfl rfl (hS.cell (i := 0) rfl (v := .string _) rfl)) <| A1 16 <| AO.callP rfl (gsome rfl (bT h17)) rfl hH12 sR (c_name_Less _ _  _) (run_call2 call49 rfl rfl) <| fun w18 hH19 => AG 17 rfl rfl (bT h17) (hH19.sub sR) (fun w hS => run_not rfl) <| AG 18 rfl rfl (bR (c := false) h15) (hH19.sub sR) (fun w hS => run_pickT (bT h17) (v := B _) rfl) <| have zh19 := hH19.sub sR; AQ 19 rfl zh19 (run_pickF (bR (c := false) h15) (v := B _) rfl) <| AD <| CW.cond rfl (fun h22 => ?_) (fun h22 => ?_)
    ·refine SR <| va (v := B false) rfl <| RL.nil <| CW.ret <| outP1 Tryd.results27 (congrArg B ?_) hH19.below
     exact (ordered_no2 h0 ‹k < _› ‹0 < k› (nt ‹(!lessT _ _) = true›)).symm
    ·refine CW.skip <| CW.region <| V (run_add e7_1 rfl (by omega)) <| mI rfl <| RL.nil <| ?_
     refine ⟨k + 1, ?_, fr1.u4.u4.u4.u4.u4.u4.u4, (hH19.sub (sQ sR)), (congrArg I (by rfl)), ?_, ?_, ?_⟩
     ·((try dsimp only); omega)
     ·omega
     ·omega
     ·exact fun j a b => if e : j = k then e ▸ (by exact ord_y2 (nf ‹(!nameR _) = false›) (nf ‹(!lessT _ _) = false›)) else hg j a (by omega)
   ·refine AK 8 rfl rfl (bF h17) (hH12.sub sR) <| AK 9 rfl rfl (bF h17) (hH12.sub sR) <| AK 10 rfl rfl (bF h17) (hH12.sub sR) <| AK 11 rfl rfl (bF h17) (hH12.sub sR) <| AK 12 rfl rfl (bF h17) (hH12.sub sR) <| AK 13 rfl rfl (bF h17) (hH12.sub sR) <| AK 14 rfl rfl (bF h17) (hH12.sub sR) <| AK 15 rfl rfl (bF h17) (hH12.sub sR) <| AK 16 rfl rfl (bF h17) (hH12.sub sR) <| AK 17 rfl rfl (bF h17) (hH12.sub sR) <| AG 18 rfl rfl (bR (c := false) h15) (hH12.sub sR) (fun w hS => run_pickF (bF h17) (v := B false) rfl) <| AQ 19 rfl zh12 (run_pickF (bR (c := false) h15) (v := B _) rfl) <| AD <| CW.condF rfl <| CW.skip <| CW.region <| V (run_add e7_1 rfl (by omega)) <| mI rfl <| RL.nil <| ?_
    refine ⟨k + 1, ?_, fr1.u4.u4.u4.u4.u4.u4.u4, (hH12.sub (sQ sR)), (congrArg I (by rfl)), ?_, ?_, ?_⟩
    ·((try dsimp only); omega)
    ·omega
    ·omega
    ·exact fun j a b => if e : j = k then e ▸ (by exact ord_y1 (nf ‹_›) ‹¬ 0 < k›) else hg j a (by omega)
 ·refine CW.exit (id := 0) rfl <| SR <| va (v := B true) rfl <| RL.nil <| CW.ret <| outP1 Tryd.results27 (congrArg B ?_) hH1.below
  exact (ordered_yes ‹¬ k < _› hg).symm
theorem c_assign_fits (s : Shp) (v : Value) (l : List ValR) (w : World) (hs : Sl w v 9 l.length (l.flatMap valL)) (hsh : ShpV (Kw w) s) (hT : Tab w) : Calls Tryd.prog 28 #[.agg (shpC s), v] w (Pure (B (fitsF s.sh l)) w) := by
 have hm := hs.small
 unfold maxLen at hm
 refine enter Tryd.func28 rfl Tryd.ntmps28 rfl <| have hH := Hp.start w; SR <| RL.new rfl hH (f := fun b => (.pointer (some ⟨b, 0, none⟩))) (run_box (v := .agg _) rfl) <| fun b3 w1 hH2 => va (v := B false) rfl <| RL.nil <| CW.seq <| SR <| ?_
 refine V (run_move (by conv => lhs; whnf)) ?_
 refine V (run_lenSl (hs.hp hH2) rfl underlying40 rfl) <| vm (v := I 0) rfl <| RL.nil <| CW.block <| CW.loop (G := Int) (fun k s' w' => (Fr (4 :: (6 :: (rg 9 10 []))) _ s') ∧ (Hp w w' _) ∧ (s' 9 = I k) ∧ (0 ≤ k) ∧ (k ≤ l.length) ∧ (∀ j : Int, 0 ≤ j → j < k → fitsS s.sh (l.getD j.toNat val0).el = true)) (fun k => (l.length - k).toNat) (0) ⟨Fr.refl _ _, hH2, rfl, (by omega), (by omega), fun j a b => absurd b (by omega)⟩ <| ?_
 rintro k sg4 w4 ⟨fr4, hH4, e9_4, h0, hk, hg⟩
 have e2_4 := fr4.pp 2 rfl rfl
 have e7_4 := (fr4 7 rfl).trans (by conv => lhs; whnf)
 have e8_4 := fr4.ii 8 rfl rfl
 refine SR <| V (run_lss e9_4 e8_4) <| RL.nil <| CW.seq <| CW.condP rfl (fun h6 => ?_) (fun h6 => ?_)
 ·refine CW.skip <| CW.seq <| CW.block <| SR <| V (run_indexAddrS (hs.hp hH4) underlying40 sizeOf61 e7_4 e9_4 (by omega)) <| V (run_ldE (dv := val0) valL_len (hs.hp hH4) underlying61 rfl rfl rfl (by omega)) <| RL.new rfl hH4 (f := fun b => (.pointer (some ⟨b, 0, none⟩))) (run_alloc zero_val) <| fun b9 w7 hH8 => RL.set hH8 (i := 0) rfl (run_stW (c' := (valL _).toArray) rfl rfl rfl (valL_one _) (hH8.blk (i := 0) rfl) rfl) <| fun w10 hH11 => ?_
  simp only [z2] at hH11
  refine RL.nil <| SR <| V (run_ldA (cs := [B _, _]) underlying70 rfl rfl e2_4 (rangeAt_cells (hH11.blk (i := 1) rfl))) <| V (fA underlying61 1 rfl sizeOf33 rfl) <| V (run_ldVB underlying33 rfl rfl rfl (hH11.blk (i := 0) rfl)) <| RL.callP rfl hH11 (c_shape_Fits _ _  _ (hsh.mono hH11.kw) (hT.hp hH11)) (run_call2 call26 rfl rfl) <| fun w12 hH13 => V (run_not rfl) <| RL.nil <| CW.cond rfl (fun h16 => ?_) (fun h16 => ?_)
  ·refine SR <| va (v := B false) rfl <| RL.nil <| CW.ret <| outP1 Tryd.results28 (congrArg B ?_) hH13.below
   exact (fits_no h0 ‹k < _› (nt ‹_›)).symm
  ·refine CW.skip <| CW.region <| V (run_add e9_4 rfl (by omega)) <| mI rfl <| RL.nil <| ?_
   refine ⟨k + 1, ?_, fr4.u4.u4.u1.u1.u1, (hH13.sub (sQ sR)), (congrArg I (by rfl)), ?_, ?_, ?_⟩
   ·((try dsimp only); omega)
   ·omega
   ·omega
   ·exact fun j a b => if e : j = k then e ▸ nf ‹_› else hg j a (by omega)
 ·refine CW.exit (id := 0) rfl <| SR <| va (v := B true) rfl <| RL.nil <| CW.ret <| outP1 Tryd.results28 (congrArg B ?_) hH4.below
  exact (fits_all ‹¬ k < _› hg).symm
set_option maxHeartbeats 2000000 in
theorem c_assign_Right (s : Scp) (a : Asg) (w : World) (hs : ScpV (Kw w) s) (ha : AsgV (Kw w) a) (hT : Tab w) : Calls Tryd.prog 13 #[.agg (scpC s), .agg (asgL a).toArray] w (Pure (B (rightA s.sc a.as)) w) := by
 have hm1 := hs.lats.sl.small
 have hm2 := hs.vars.sl.small
 unfold maxLen at hm1 hm2
 have hm3 := ha.labels.small
 have hm4 := ha.rows.small
 unfold maxLen at hm3 hm4
 refine enter Tryd.func13 rfl Tryd.ntmps13 rfl <| have hH := Hp.start w; SR <| RL.new rfl hH (f := fun b => (.pointer (some ⟨b, 0, none⟩))) (run_box (v := .agg _) rfl) <| fun b3 w1 hH2 => RL.new rfl hH2 (f := fun b => (.pointer (some ⟨b, 0, none⟩))) (run_box (v := .agg _) rfl) <| fun b6 w4 hH5 => va (v := B false) rfl <| RL.nil <| CW.seq <| SR <| V (fA underlying28 0 rfl sizeOf25 rfl) <| V (run_ldV (ha.labels.sl.hp hH5) underlying25 rfl rfl (hH5.cell (i := 0) rfl rfl)) <| V (run_lenSl (ha.labels.sl.hp hH5) rfl underlying25 rfl) <| V (fA underlying48 1 rfl sizeOf46 rfl) <| V (run_ldV (hs.vars.sl.hp hH5) underlying46 rfl rfl (hH5.cell (i := 1) rfl rfl)) <| V (run_lenSl (hs.vars.sl.hp hH5) rfl underlying46 rfl) <| V (run_neq rfl rfl) <| mB rfl <| RL.splitP (dj := 15) rfl (fun h8 => ?_) (fun h8 => ?_)
 ·refine gF rfl (bT h8) <| gF rfl (bT h8) <| gF rfl (bT h8) <| gF rfl (bT h8) <| gF rfl (bT h8) <| gF rfl (bT h8) <| gF rfl (bT h8) <| V (run_pickT (bT h8) (v := B true) rfl) <| RL.nil <| CW.condT rfl <| SR <| va (v := B false) rfl <| RL.nil <| CW.ret <| outP1 Tryd.results13 (congrArg B ?_) hH5.below
  exact (right_1 (by omega)).symm
 ·refine gT rfl (bF h8) <| V (fA underlying28 1 rfl sizeOf26 rfl) <| gT rfl (bF h8) <| V (run_ldV (ha.rows.sl.hp hH5) underlying26 rfl rfl (hH5.cell (i := 0) rfl rfl)) <| gT rfl (bF h8) <| V (run_lenSl (ha.rows.sl.hp hH5) rfl underlying26 rfl) <| gT rfl (bF h8) <| V (fA underlying48 1 rfl sizeOf46 rfl) <| gT rfl (bF h8) <| V (run_ldV (hs.vars.sl.hp hH5) underlying46 rfl rfl (hH5.cell (i := 1) rfl rfl)) <| gT rfl (bF h8) <| V (run_lenSl (hs.vars.sl.hp hH5) rfl underlying46 rfl) <| gT rfl (bF h8) <| V (run_neq rfl rfl) <| V (run_pickF (bF h8) (v := B _) rfl) <| RL.nil <| CW.condP rfl (fun h10 => ?_) (fun h10 => ?_)
  ·refine SR <| va (v := B false) rfl <| RL.nil <| CW.ret <| outP1 Tryd.results13 (congrArg B ?_) hH5.below
   exact (right_2 (by omega)).symm
  ·refine CW.skip <| CW.seq <| SR <| V (fA underlying48 1 rfl sizeOf46 rfl) <| V (run_ldV (hs.vars.sl.hp hH5) underlying46 rfl rfl (hH5.cell (i := 1) rfl rfl)) <| V (run_lenSl (hs.vars.sl.hp hH5) rfl underlying46 rfl) <| vm (v := I 0) rfl <| RL.nil <| CW.block <| have e1 : (a.labels.length : Int) = s.vars.length := (by omega); have e2 : (a.rows.length : Int) = s.vars.length := (by omega); CW.loop (G := Int) (fun k s' w' => (Fr (rg 4 4 (rg 27 73 [])) _ s') ∧ (Hp w w' _) ∧ (s' 27 = I k) ∧ (0 ≤ k) ∧ (k ≤ s.vars.length) ∧ (∀ i : Int, 0 ≤ i → i < k → okG s a i = true)) (fun k => (s.vars.length - k).toNat) (0) ⟨Fr.refl _ _, hH5, rfl, (by omega), (by omega), fun j a b => absurd b (by omega)⟩ <| ?_
   rintro k sg11 w11 ⟨fr11, hH11, e27_11, h0, hk, hg⟩
   have e2_11 := fr11.pp 2 rfl rfl
   have e3_11 := fr11.pp 3 rfl rfl
   have e25_11 := (fr11 25 rfl).trans (by conv => lhs; whnf)
   have e26_11 := fr11.ii 26 rfl rfl
   refine SR <| V (run_lss e27_11 e26_11) <| RL.nil <| CW.seq <| CW.condP rfl (fun h13 => ?_) (fun h13 => ?_)
   ·refine CW.skip <| CW.seq <| CW.block <| SR <| vm e27_11 <| V (run_indexAddrS (hs.vars.sl.hp hH11) underlying46 sizeOf74 e25_11 e27_11 (by omega)) <| V (run_ldE (dv := var0) varL_len (hs.vars.sl.hp hH11) underlying74 rfl rfl rfl (by omega)) <| RL.new rfl hH11 (f := fun b => (.pointer (some ⟨b, 0, none⟩))) (run_alloc Tryd.zeroValue74) <| fun b16 w14 hH15 => aI rfl <| RL.set hH15 (i := 0) rfl (run_stW (c' := (varL _).toArray) rfl rfl rfl (by simp [varL, Value.oneCell']) (hH15.blk (i := 0) rfl) rfl) <| fun w17 hH18 => ?_
    simp only [z2] at hH18
    refine RL.nil <| CW.seq <| SR <| V (fA underlying74 2 rfl sizeOf3 rfl) <| V (run_ld underlying3 rfl rfl (hH18.cell (i := 0) rfl (v := I _) rfl)) <| V (run_lss rfl rfl) <| mB rfl <| RL.splitP (dj := 35) rfl (fun h20 => ?_) (fun h20 => ?_)
    ·refine gF rfl (bT h20) <| gF rfl (bT h20) <| gF rfl (bT h20) <| gF rfl (bT h20) <| gF rfl (bT h20) <| gF rfl (bT h20) <| V (run_pickT (bT h20) (v := B true) rfl) <| RL.nil <| CW.condT rfl <| SR <| va (v := B false) rfl <| RL.nil <| CW.ret <| outP1 Tryd.results13 (congrArg B ?_) hH18.below
     exact (right_3 h0 ‹k < _› (ok_n0 (by omega))).symm
    ·refine gT rfl (bF h20) <| V (fA underlying74 2 rfl sizeOf3 rfl) <| gT rfl (bF h20) <| V (run_ld underlying3 rfl rfl (hH18.cell (i := 0) rfl (v := I _) rfl)) <| gT rfl (bF h20) <| V (fA underlying48 0 rfl sizeOf45 e2_11) <| gT rfl (bF h20) <| V (run_ldV (hs.lats.sl.hp hH18) underlying45 rfl rfl (hH18.cell (i := 2) rfl rfl)) <| gT rfl (bF h20) <| V (run_lenSl (hs.lats.sl.hp hH18) rfl underlying45 rfl) <| gT rfl (bF h20) <| V (run_geq rfl rfl) <| V (run_pickF (bF h20) (v := B _) rfl) <| RL.nil <| CW.condP rfl (fun h22 => ?_) (fun h22 => ?_)
     ·refine SR <| va (v := B false) rfl <| RL.nil <| CW.ret <| outP1 Tryd.results13 (congrArg B ?_) hH18.below
      exact (right_3 h0 ‹k < _› (ok_n0 (by omega))).symm
     ·refine CW.skip <| SR <| V (fA underlying48 0 rfl sizeOf45 e2_11) <| V (run_ldV (hs.lats.sl.hp hH18) underlying45 rfl rfl (hH18.cell (i := 2) rfl rfl)) <| V (fA underlying74 2 rfl sizeOf3 rfl) <| V (run_ld underlying3 rfl rfl (hH18.cell (i := 0) rfl (v := I _) rfl)) <| V (run_indexAddrS (hs.lats.sl.hp hH18) underlying45 sizeOf72 rfl rfl (by omega)) <| V (fA underlying72 1 rfl sizeOf70 rfl) <| V (run_ldEA (dv := lat0) (off := 1) (cs := shpL _) latL_len (hs.lats.sl.hp hH18) underlying70 rfl rfl rfl (by omega) (lat_shp _)) <| RL.new rfl hH18 (f := fun b => (.pointer (some ⟨b, 0, none⟩))) (run_alloc Tryd.zeroValue70) <| fun b25 w23 hH24 => RL.set hH24 (i := 0) rfl (run_stShp (hs.at (by omega) (by omega)) rfl rfl rfl (hH24.blk (i := 0) rfl) rfl) <| fun w26 hH27 => ?_
      simp only [z2] at hH27
      refine RL.nil <| SR <| V (fA underlying74 1 rfl sizeOf3 rfl) <| V (run_ld underlying3 rfl rfl (hH27.cell (i := 1) rfl (v := I _) rfl)) <| RL.nil <| CW.block <| SR <| V (run_eql rfl rfl) <| aB rfl <| RL.nil <| CW.condP rfl (fun h29 => ?_) (fun h29 => ?_)
      ·refine CW.seq <| CW.regionD (by kernel_rfl) hH27 <| fun w30 hH31 => have zh31 := hH31.sub sR; AQ 0 rfl zh31 (fA underlying28 1 rfl sizeOf26 e3_11) <| AT 1 rfl zh31 (fun w hS => run_ldV (ha.rows.sl.hp hS) underlying26 rfl rfl (hS.cell (i := 2) rfl rfl)) <| AQ 2 rfl zh31 (mV (I _) rfl) <| AT 3 rfl zh31 (fun w hS => run_indexAddrS (ha.rows.sl.hp hS) underlying26 sizeOf40 rfl rfl (by omega)) <| AT 4 rfl zh31 (fun w hS => run_ld underlying40 rfl rfl ((ha.rows.sl.hp hS).cell _ _ (rowsC_at (by omega)))) <| AT 5 rfl zh31 (fun w hS => run_lenSl ((ha.at (by omega) (by omega)).sl.hp hS) rfl underlying40 rfl) <| AQ 6 rfl zh31 (run_gtr rfl rfl) <| AQ 7 rfl zh31 (mV (B _) rfl) <| AN.splitP (dj := 61) rfl (fun h33 => ?_) (fun h33 => ?_)
       ·refine AK 8 rfl rfl (bT h33) (hH31.sub sR) <| AK 9 rfl rfl (bT h33) (hH31.sub sR) <| AK 10 rfl rfl (bT h33) (hH31.sub sR) <| AK 11 rfl rfl (bT h33) (hH31.sub sR) <| AK 12 rfl rfl (bT h33) (hH31.sub sR) <| AK 13 rfl rfl (bT h33) (hH31.sub sR) <| AK 14 rfl rfl (bT h33) (hH31.sub sR) <| AK 15 rfl rfl (bT h33) (hH31.sub sR) <| AQ 16 rfl zh31 (run_pickT (bT h33) (v := B true) rfl) <| AD <| CW.condT rfl <| SR <| va (v := B false) rfl <| RL.nil <| CW.ret <| outP1 Tryd.results13 (congrArg B ?_) hH31.below
        exact (right_3 h0 ‹k < _› (ok_1a (by omega) (by omega))).symm
       ·refine AG 8 rfl rfl (bF h33) (hH31.sub sR) (fun w hS => run_ldA (cs := [B _, _]) underlying70 rfl rfl rfl (rangeAt_cells (hS.blk (i := 0) rfl))) <| AG 9 rfl rfl (bF h33) (hH31.sub sR) (fun w hS => fA underlying28 0 rfl sizeOf25 e3_11) <| AG 10 rfl rfl (bF h33) (hH31.sub sR) (fun w hS => run_ldV (ha.labels.sl.hp hS) underlying25 rfl rfl (hS.cell (i := 2) rfl rfl)) <| AG 11 rfl rfl (bF h33) (hH31.sub sR) (fun w hS => mV (I _) rfl) <| AG 12 rfl rfl (bF h33) (hH31.sub sR) (fun w hS => run_indexAddrS (ha.labels.sl.hp hS) underlying25 sizeOf33 rfl rfl (by omega)) <| AG 13 rfl rfl (bF h33) (hH31.sub sR) (fun w hS => run_ldElS (ha.labels.sl.hp hS) underlying33 rfl rfl rfl (by omega)) <| A1 14 <| AO.callP rfl (gsome rfl (bF h33)) rfl hH31 sR (c_shape_Fits _ _  _ ((hs.at (by omega) (by omega)).mono hH31.kw) (hT.hp hH31)) (run_call2 call26 rfl rfl) <| fun w34 hH35 => AG 15 rfl rfl (bF h33) (hH35.sub sR) (fun w hS => run_not rfl) <| AQ 16 rfl (hH35.sub sR) (run_pickF (bF h33) (v := B _) rfl) <| AD <| CW.cond rfl (fun h38 => ?_) (fun h38 => ?_)
        ·refine SR <| va (v := B false) rfl <| RL.nil <| CW.ret <| outP1 Tryd.results13 (congrArg B ?_) hH35.below
         exact (right_3 h0 ‹k < _› (ok_1b (by omega) (nt ‹(!fitsS _ _) = true›))).symm
        ·refine CW.skip <| CW.region <| V (run_add e27_11 rfl (by omega)) <| mI rfl <| RL.nil <| ?_
         refine ⟨k + 1, ?_, fr11.u4.u4.u4.u4.u4.u4.u4.u4.u4.u4.u4.u4, (hH35.sub (sQ (sQ sR))), (congrArg I (by rfl)), ?_, ?_, ?_⟩
         ·((try dsimp only); omega)
         ·omega
         ·omega
         ·exact fun i u v => if e : i = k then e ▸ (by exact ok_y1 ⟨by omega, by omega⟩ (by omega) (by omega) (nf ‹(!fitsS _ _) = false›)) else hg i u (by omega)
      ·refine SR <| V (run_eql rfl rfl) <| aB rfl <| RL.nil <| CW.condP rfl (fun h40 => ?_) (fun h40 => ?_)
       ·refine CW.seq <| CW.regionD (by kernel_rfl) hH27 <| fun w41 hH42 => have zh42 := hH42.sub sR; AQ 0 rfl zh42 (fA underlying28 0 rfl sizeOf25 e3_11) <| AT 1 rfl zh42 (fun w hS => run_ldV (ha.labels.sl.hp hS) underlying25 rfl rfl (hS.cell (i := 2) rfl rfl)) <| AQ 2 rfl zh42 (mV (I _) rfl) <| AT 3 rfl zh42 (fun w hS => run_indexAddrS (ha.labels.sl.hp hS) underlying25 sizeOf33 rfl rfl (by omega)) <| AT 4 rfl zh42 (fun w hS => run_ldElS (ha.labels.sl.hp hS) underlying33 rfl rfl rfl (by omega)) <| AQ 5 rfl zh42 (run_bld (vs := []) rfl (built_el0)) <| AQ 6 rfl zh42 (run_neqEl elT_fact rfl rfl) <| AQ 7 rfl zh42 (mV (B _) rfl) <| AN.split (dj := 80) rfl (fun h44 => ?_) (fun h44 => ?_)
        ·refine AK 8 rfl rfl (bR (c := true) h44) (hH42.sub sR) <| AK 9 rfl rfl (bR (c := true) h44) (hH42.sub sR) <| AK 10 rfl rfl (bR (c := true) h44) (hH42.sub sR) <| AK 11 rfl rfl (bR (c := true) h44) (hH42.sub sR) <| AK 12 rfl rfl (bR (c := true) h44) (hH42.sub sR) <| AK 13 rfl rfl (bR (c := true) h44) (hH42.sub sR) <| AK 14 rfl rfl (bR (c := true) h44) (hH42.sub sR) <| AQ 15 rfl zh42 (run_pickT (bR (c := true) h44) (v := B true) rfl) <| AQ 16 rfl zh42 (mV (B _) rfl) <| AK 17 rfl rfl rfl (hH42.sub sR) <| AK 18 rfl rfl rfl (hH42.sub sR) <| AK 19 rfl rfl rfl (hH42.sub sR) <| AK 20 rfl rfl rfl (hH42.sub sR) <| AK 21 rfl rfl rfl (hH42.sub sR) <| AK 22 rfl rfl rfl (hH42.sub sR) <| AK 23 rfl rfl rfl (hH42.sub sR) <| AK 24 rfl rfl rfl (hH42.sub sR) <| AQ 25 rfl zh42 (run_pickT rfl (v := B true) rfl) <| AD <| CW.condT rfl <| SR <| va (v := B false) rfl <| RL.nil <| CW.ret <| outP1 Tryd.results13 (congrArg B ?_) hH42.below
         exact (right_3 h0 ‹k < _› (ok_2a (by omega) (nt ‹(!decide (eqE _ _)) = true›))).symm
        ·refine AG 8 rfl rfl (bR (c := false) h44) (hH42.sub sR) (fun w hS => fA underlying28 1 rfl sizeOf26 e3_11) <| AG 9 rfl rfl (bR (c := false) h44) (hH42.sub sR) (fun w hS => run_ldV (ha.rows.sl.hp hS) underlying26 rfl rfl (hS.cell (i := 2) rfl rfl)) <| AG 10 rfl rfl (bR (c := false) h44) (hH42.sub sR) (fun w hS => mV (I _) rfl) <| AG 11 rfl rfl (bR (c := false) h44) (hH42.sub sR) (fun w hS => run_indexAddrS (ha.rows.sl.hp hS) underlying26 sizeOf40 rfl rfl (by omega)) <| AG 12 rfl rfl (bR (c := false) h44) (hH42.sub sR) (fun w hS => run_ld underlying40 rfl rfl ((ha.rows.sl.hp hS).cell _ _ (rowsC_at (by omega)))) <| A1 13 <| AO.callP rfl (gsome rfl (bR (c := false) h44)) rfl hH42 sR (c_assign_ordered _ _  _ ((ha.at (by omega) (by omega)).sl.hp hH42)) (run_call1 call27 rfl) <| fun w45 hH46 => AG 14 rfl rfl (bR (c := false) h44) (hH46.sub sR) (fun w hS => run_not rfl) <| have zh46 := hH46.sub sR; AQ 15 rfl zh46 (run_pickF (bR (c := false) h44) (v := B _) rfl) <| AQ 16 rfl zh46 (mV (B _) rfl) <| AN.split (dj := 89) rfl (fun h49 => ?_) (fun h49 => ?_)
         ·refine AK 17 rfl rfl (bR (c := true) h49) (hH46.sub sR) <| AK 18 rfl rfl (bR (c := true) h49) (hH46.sub sR) <| AK 19 rfl rfl (bR (c := true) h49) (hH46.sub sR) <| AK 20 rfl rfl (bR (c := true) h49) (hH46.sub sR) <| AK 21 rfl rfl (bR (c := true) h49) (hH46.sub sR) <| AK 22 rfl rfl (bR (c := true) h49) (hH46.sub sR) <| AK 23 rfl rfl (bR (c := true) h49) (hH46.sub sR) <| AK 24 rfl rfl (bR (c := true) h49) (hH46.sub sR) <| AQ 25 rfl zh46 (run_pickT (bR (c := true) h49) (v := B true) rfl) <| AD <| CW.condT rfl <| SR <| va (v := B false) rfl <| RL.nil <| CW.ret <| outP1 Tryd.results13 (congrArg B ?_) hH46.below
          exact (right_3 h0 ‹k < _› (ok_2b (by omega) (nt ‹(!orderedF _) = true›))).symm
         ·refine AG 17 rfl rfl (bR (c := false) h49) (hH46.sub sR) (fun w hS => run_ldA (cs := [B _, _]) underlying70 rfl rfl rfl (rangeAt_cells (hS.blk (i := 0) rfl))) <| AG 18 rfl rfl (bR (c := false) h49) (hH46.sub sR) (fun w hS => fA underlying28 1 rfl sizeOf26 e3_11) <| AG 19 rfl rfl (bR (c := false) h49) (hH46.sub sR) (fun w hS => run_ldV (ha.rows.sl.hp hS) underlying26 rfl rfl (hS.cell (i := 2) rfl rfl)) <| AG 20 rfl rfl (bR (c := false) h49) (hH46.sub sR) (fun w hS => mV (I _) rfl) <| AG 21 rfl rfl (bR (c := false) h49) (hH46.sub sR) (fun w hS => run_indexAddrS (ha.rows.sl.hp hS) underlying26 sizeOf40 rfl rfl (by omega)) <| AG 22 rfl rfl (bR (c := false) h49) (hH46.sub sR) (fun w hS => run_ld underlying40 rfl rfl ((ha.rows.sl.hp hS).cell _ _ (rowsC_at (by omega)))) <| A1 23 <| AO.callP rfl (gsome rfl (bR (c := false) h49)) rfl hH46 sR (c_assign_fits _ _ _  _ ((ha.at (by omega) (by omega)).sl.hp hH46) ((hs.at (by omega) (by omega)).mono hH46.kw) (hT.hp hH46)) (run_call2 call28 rfl rfl) <| fun w50 hH51 => AG 24 rfl rfl (bR (c := false) h49) (hH51.sub sR) (fun w hS => run_not rfl) <| AQ 25 rfl (hH51.sub sR) (run_pickF (bR (c := false) h49) (v := B _) rfl) <| AD <| CW.cond rfl (fun h54 => ?_) (fun h54 => ?_)
          ·refine SR <| va (v := B false) rfl <| RL.nil <| CW.ret <| outP1 Tryd.results13 (congrArg B ?_) hH51.below
           exact (right_3 h0 ‹k < _› (ok_2c (by omega) (nt ‹(!fitsF _ _) = true›))).symm
          ·refine CW.skip <| CW.region <| V (run_add e27_11 rfl (by omega)) <| mI rfl <| RL.nil <| ?_
           refine ⟨k + 1, ?_, fr11.u4.u4.u4.u4.u4.u4.u4.u4.u4.u4.u4.u4.u4.u4.u1.u1.u1, (hH51.sub (sQ (sQ sR))), (congrArg I (by rfl)), ?_, ?_, ?_⟩
           ·((try dsimp only); omega)
           ·omega
           ·omega
           ·exact fun i u v => if e : i = k then e ▸ (by exact ok_y2 ⟨by omega, by omega⟩ (by omega) (nf ‹(!decide (eqE _ _)) = false›) (nf ‹(!orderedF _) = false›) (nf ‹(!fitsF _ _) = false›)) else hg i u (by omega)
       ·refine SR <| va (v := B false) rfl <| RL.nil <| CW.ret <| outP1 Tryd.results13 (congrArg B ?_) hH27.below
        exact (right_3 h0 ‹k < _› (ok_x (by omega) (by omega))).symm
   ·refine CW.exit (id := 0) rfl <| SR <| va (v := B true) rfl <| RL.nil <| CW.ret <| outP1 Tryd.results13 (congrArg B ?_) hH11.below
    exact (right_y e1 e2 ‹¬ k < _› hg).symm
theorem c_clearancelaw18_Big (a : Asg) (hbd : ∀ r ∈ a.rows, r.l.length ≤ 1759218604390) (w : World) (ha : AsgV (Kw w) a) : Calls Tryd.prog 6 #[.agg (asgL a).toArray] w (Pure (B (bigA a)) w) := by
 have hm1 := ha.labels.small
 have hm2 := ha.rows.small
 unfold maxLen at hm1 hm2
 refine enter Tryd.func6 rfl Tryd.ntmps6 rfl <| have hH := Hp.start w; SR <| RL.new rfl hH (f := fun b => (.pointer (some ⟨b, 0, none⟩))) (run_box (v := .agg _) rfl) <| fun b3 w1 hH2 => va (v := B false) rfl <| RL.nil <| CW.seq <| SR <| V (fA underlying28 0 rfl sizeOf25 rfl) <| V (run_ldV (ha.labels.sl.hp hH2) underlying25 rfl rfl (hH2.cell (i := 0) rfl rfl)) <| V (run_lenSl (ha.labels.sl.hp hH2) rfl underlying25 rfl) <| V (run_gtr rfl rfl) <| mB rfl <| RL.splitP (dj := 12) rfl (fun h5 => ?_) (fun h5 => ?_)
 ·refine gF rfl (bT h5) <| gF rfl (bT h5) <| gF rfl (bT h5) <| gF rfl (bT h5) <| V (run_pickT (bT h5) (v := B true) rfl) <| RL.nil <| CW.condT rfl <| SR <| va (v := B true) rfl <| RL.nil <| CW.ret <| outP1 Tryd.results6 (congrArg B ?_) hH2.below
  (rw [bigA, decide_eq_true (by omega)]; rfl)
 ·refine gT rfl (bF h5) <| V (fA underlying28 1 rfl sizeOf26 rfl) <| gT rfl (bF h5) <| V (run_ldV (ha.rows.sl.hp hH2) underlying26 rfl rfl (hH2.cell (i := 0) rfl rfl)) <| gT rfl (bF h5) <| V (run_lenSl (ha.rows.sl.hp hH2) rfl underlying26 rfl) <| gT rfl (bF h5) <| V (run_gtr rfl rfl) <| V (run_pickF (bF h5) (v := B _) rfl) <| RL.nil <| CW.condP rfl (fun h7 => ?_) (fun h7 => ?_)
  ·refine SR <| va (v := B true) rfl <| RL.nil <| CW.ret <| outP1 Tryd.results6 (congrArg B ?_) hH2.below
   (rw [bigA, decide_eq_true (by omega)]; rfl)
  ·refine CW.skip <| SR <| va (v := I 0) rfl <| RL.nil <| CW.seq <| SR <| V (fA underlying28 1 rfl sizeOf26 rfl) <| V (run_ldV (ha.rows.sl.hp hH2) underlying26 rfl rfl (hH2.cell (i := 0) rfl rfl)) <| V (run_lenSl (ha.rows.sl.hp hH2) rfl underlying26 rfl) <| vm (v := I 0) rfl <| RL.nil <| CW.block <| have hno : ¬ (100 < a.labels.length ∨ 100 < a.rows.length) := (by omega); CW.loop (G := Int) (fun k s' w' => (Fr (2 :: 3 :: (5 :: (7 :: (rg 21 20 [])))) _ s') ∧ (Hp w w' _) ∧ (s' 3 = I (rsum (a.rows.take k.toNat))) ∧ (s' 21 = I k) ∧ (0 ≤ k) ∧ (k ≤ a.rows.length) ∧ (∀ i : Int, 0 ≤ i → i < k → bigR (a.rows.getD i.toNat vr0) = false)) (fun k => (a.rows.length - k).toNat) (0) ⟨Fr.refl _ _, hH2, rfl, rfl, (by omega), (by omega), fun j a b => absurd b (by omega)⟩ <| ?_
   rintro k sg8 w8 ⟨fr8, hH8, e3_8, e21_8, h0, hk, hg⟩
   have e19_8 := (fr8 19 rfl).trans (by conv => lhs; whnf)
   have e20_8 := fr8.ii 20 rfl rfl
   refine SR <| V (run_lss e21_8 e20_8) <| RL.nil <| CW.seq <| CW.condP rfl (fun h10 => ?_) (fun h10 => ?_)
   ·refine CW.skip <| CW.seq <| CW.block <| SR <| V (run_indexAddrS (ha.rows.sl.hp hH8) underlying26 sizeOf40 e19_8 e21_8 (by omega)) <| V (run_ld underlying40 rfl rfl ((ha.rows.sl.hp hH8).cell _ _ (rowsC_at (by omega)))) <| ?_
    refine V (run_assign (by conv => lhs; whnf)) ?_
    refine RL.nil <| SR <| vm e3_8 <| ?_
    refine V (run_move (by conv => lhs; whnf)) ?_
    refine V (run_lenSl ((ha.at (by omega) (by omega)).sl.hp hH8) rfl underlying40 rfl) <| V (run_add rfl rfl (by have hb2 := hbd _ (List.mem_of_getElem? (getD_at (d := vr0) h0 ‹k < _›)); have hb3 := rsum_bd hbd h0 (show k ≤ 100 by omega); omega)) <| aI rfl <| RL.nil <| SR <| ?_
    refine V (run_move (by conv => lhs; whnf)) ?_
    refine V (run_lenSl ((ha.at (by omega) (by omega)).sl.hp hH8) rfl underlying40 rfl) <| vm (v := I 0) rfl <| RL.nil <| CW.block <| have hm5 := (ha.at h0 (by omega)).small; ?_
    unfold maxLen at hm5
    refine CW.loop (G := Int) (fun q s' w' => (Fr (2 :: (7 :: (rg 31 9 []))) _ s') ∧ (Hp w w' _) ∧ (s' 31 = I q) ∧ (0 ≤ q) ∧ (q ≤ (a.rows.getD k.toNat vr0).l.length) ∧ (∀ i : Int, 0 ≤ i → i < q → bigNm ((a.rows.getD k.toNat vr0).l.getD i.toNat val0) = false)) (fun q => ((a.rows.getD k.toNat vr0).l.length - q).toNat) (0) ⟨Fr.refl _ _, hH8, rfl, (by omega), (by omega), fun j a b => absurd b (by omega)⟩ ?_
    rintro q sg11 w11 ⟨fr11, hH11, e31_11, q0, qk, hq⟩
    have e3_11 := fr11.ii 3 rfl rfl
    have e21_11 := (fr11 21 rfl).trans e21_8
    have e29_11 := (fr11 29 rfl).trans (by conv => lhs; whnf)
    have e30_11 := fr11.ii 30 rfl rfl
    refine SR <| V (run_lss e31_11 e30_11) <| RL.nil <| CW.seq <| CW.condP rfl (fun h13 => ?_) (fun h13 => ?_)
    ·refine CW.skip <| CW.seq <| CW.block <| SR <| V (run_indexAddrS ((ha.at (by omega) (by omega)).sl.hp hH11) underlying40 sizeOf61 e29_11 e31_11 (by omega)) <| V (run_ldE (dv := val0) valL_len ((ha.at (by omega) (by omega)).sl.hp hH11) underlying61 rfl rfl rfl (by omega)) <| RL.new rfl hH11 (f := fun b => (.pointer (some ⟨b, 0, none⟩))) (run_alloc zero_val) <| fun b16 w14 hH15 => RL.set hH15 (i := 0) rfl (run_stW (c' := (valL _).toArray) rfl rfl rfl (valL_one _) (hH15.blk (i := 0) rfl) rfl) <| fun w17 hH18 => ?_
     simp only [z2] at hH18
     refine RL.nil <| SR <| V (fA underlying61 0 rfl sizeOf9 rfl) <| V (run_ld underlying9 rfl rfl (hH18.cell (i := 0) rfl (v := .string _) rfl)) <| V (run_lenStr rfl underlying9 rfl) <| V (run_gtr rfl rfl) <| RL.nil <| CW.condP rfl (fun h20 => ?_) (fun h20 => ?_)
     ·refine SR <| va (v := B true) rfl <| RL.nil <| CW.ret <| outP1 Tryd.results6 (congrArg B ?_) hH18.below
      (rw [bigA, any_yes (d := vr0) (P := bigR) h0 ‹k < _› (any_yes (d := val0) (P := bigNm) q0 ‹q < _› (decide_eq_true (by omega)))]; simp; done)
     ·refine CW.skip <| CW.region <| V (run_add e31_11 rfl (by omega)) <| mI rfl <| RL.nil <| ?_
      refine ⟨q + 1, ?_, fr11.u4.u4.u1.u1, (hH18.sub (sQ sR)), (congrArg I (by rfl)), ?_, ?_, ?_⟩
      ·((try dsimp only); omega)
      ·omega
      ·omega
      ·exact fun i u v => if e : i = q then e ▸ decide_eq_false (by omega) else hq i u (by omega)
    ·refine CW.exit (id := 2) rfl <| CW.region <| V (run_add e21_11 rfl (by omega)) <| mI rfl <| RL.nil <| ?_
     refine ⟨k + 1, ?_, (((fr8.u4.u4.u4).t fr11 rfl)).u1.u1.u1, hH11, (Eq.trans e3_11 (congrArg I (rsum_next h0 ‹k < _›).symm)), (congrArg I (by rfl)), ?_, ?_, ?_⟩
     ·((try dsimp only); omega)
     ·omega
     ·omega
     ·exact fun i u v => if e : i = k then e ▸ any_no (d := val0) ‹¬ q < _› hq else hg i u (by omega)
   ·refine CW.exit (id := 0) rfl <| SR <| vm e3_8 <| V (run_gtr rfl rfl) <| aB rfl <| RL.nil <| CW.ret <| outP1 Tryd.results6 (congrArg B ?_) hH8.below
    (rw [bigA, decide_eq_false hno, any_no (d := vr0) (P := bigR) ‹¬ k < _› hg, rsum_all ‹¬ k < _›]; rfl)
theorem c_assign_both (K : Vu) (v u : Value) (l m : List ValR) (hl : l.length ≤ 1000) (w : World) (hK : Le K (Kw w)) (hs : Sl w v 9 l.length (l.flatMap valL)) (ht : Sl w u 9 m.length (m.flatMap valL)) : Calls Tryd.prog 30 #[v, u] w (PureF K (fun K' u => SlV K' u 9 (bothF l m).length ((bothF l m).flatMap valL)) w) := by
 have hm := hs.small
 unfold maxLen at hm
 have hm2 := ht.small
 unfold maxLen at hm2
 refine enter Tryd.func30 rfl Tryd.ntmps30 rfl <| have hH := Hp.start w; SR <| va (v := .slice none 0 0) rfl <| RL.nil <| SR <| va (v := .slice none 0 0) rfl <| have hH1 := hH.nilRow 61 9; RL.nil <| CW.seq <| SR <| ?_
 refine V (run_move (by conv => lhs; whnf)) ?_
 refine V (run_lenSl (hs.hp hH1) rfl underlying40 rfl) <| vm (v := I 0) rfl <| RL.nil <| CW.block <| CW.loop (G := Int × (List ValR) × Value) (fun ⟨k, m2, v5⟩ s' w' => (Fr (5 :: (rg 7 3 (rg 12 23 []))) _ s') ∧ (Hp w w' (.row v5 61 9 (m2.length) (m2.flatMap valL) :: _)) ∧ (s' 5 = v5) ∧ (s' 12 = I k) ∧ (0 ≤ k) ∧ (k ≤ l.length) ∧ (m2 = bothF (l.take k.toNat) m) ∧ ((m2.length : Int) ≤ k)) (fun ⟨k, m2, v5⟩ => (l.length - k).toNat) ((0, [], (.slice none 0 0 : Value))) ⟨Fr.refl _ _, hH1, rfl, rfl, (by omega), (by omega), rfl, (by simp)⟩ <| ?_
 rintro ⟨k, m2, v5⟩ sg2 w2 ⟨fr2, hH2, e5_2, e12_2, h0, hk, hm2, hml⟩
 have e1_2 := (fr2 1 rfl).trans (by conv => lhs; whnf)
 have e10_2 := (fr2 10 rfl).trans (by conv => lhs; whnf)
 have e11_2 := fr2.ii 11 rfl rfl
 refine SR <| V (run_lss e12_2 e11_2) <| RL.nil <| CW.seq <| CW.condP rfl (fun h4 => ?_) (fun h4 => ?_)
 ·refine CW.skip <| CW.seq <| CW.block <| SR <| V (run_indexAddrS (hs.hp hH2) underlying40 sizeOf61 e10_2 e12_2 (by omega)) <| V (run_ldE (dv := val0) valL_len (hs.hp hH2) underlying61 rfl rfl rfl (by omega)) <| RL.new rfl hH2 (f := fun b => (.pointer (some ⟨b, 0, none⟩))) (run_alloc zero_val) <| fun b7 w5 hH6 => RL.set hH6 (i := 0) rfl (run_stW (c' := (valL _).toArray) rfl rfl rfl (valL_one _) (hH6.blk (i := 0) rfl) rfl) <| fun w8 hH9 => ?_
  simp only [z2] at hH9
  refine RL.nil <| SR <| vm e1_2 <| V (fA underlying61 0 rfl sizeOf9 rfl) <| V (run_ld underlying9 rfl rfl (hH9.cell (i := 0) rfl (v := .string _) rfl)) <| RL.callP rfl hH9 (c_assign_Get _ _ _  _ (ht.hp hH9)) (run_call2 call31 rfl rfl) <| fun w10 hH11 => ?_
  refine V (run_move (by conv => lhs; whnf)) ?_
  refine V (run_extract rfl (v := .agg _) rfl) <| V (run_extract rfl (v := B _) rfl) <| RL.new rfl hH11 (f := fun b => (.pointer (some ⟨b, 0, none⟩))) (run_alloc zero_el) <| fun b15 w13 hH14 => RL.set hH14 (i := 0) rfl (run_stEl rfl rfl rfl (hH14.blk (i := 0) rfl)) <| fun w16 hH17 => ?_
  simp only [z2] at hH17
  refine aB rfl <| RL.nil <| SR <| mB rfl <| RL.nil <| CW.cond rfl (fun h18 => ?_) (fun h18 => ?_)
  ·refine CW.regionS (by kernel_rfl) hH17 (sP (sP (sQ sR))) <| fun w19 hH20 => have zh20 := hH20.sub (sP (sP (sQ sR))); AQ 0 rfl zh20 (run_move e5_2) <| AQ 1 rfl zh20 (fA underlying61 0 rfl sizeOf9 rfl) <| AT 2 rfl zh20 (fun w hS => run_ld underlying9 rfl rfl (hS.cell (i := 1) rfl (v := .string _) rfl)) <| AQ 3 rfl zh20 (fA underlying61 1 rfl sizeOf33 rfl) <| AT 4 rfl zh20 (fun w hS => run_ldVB underlying33 rfl rfl rfl (hS.blk (i := 1) rfl)) <| AT 5 rfl zh20 (fun w hS => run_ldEl underlying33 rfl rfl rfl (hS.blk (i := 0) rfl)) <| A1 6 <| AO.callP rfl gnone rfl hH20 (sP (sP (sQ sR))) (c_shape_Meet _ _  _) (run_call2 call29 rfl rfl) <| fun w21 hH22 => AQ 7 rfl (hH22.sub (sP (sP (sQ sR)))) (run_bld (vs := [(0, S _), (1, .agg (elC _))]) rfl (built_val _ _)) <| A1 8 <| AO.new rfl gnone rfl hH22 (sP (sP (sQ sR))) (f := fun b => .slice (some ⟨b, 0, none⟩) 1 1) (run_mkRecs valL_len underlying40 rfl rfl rfl (l := [_]) rfl (by decide) (by decide) rfl) <| fun b25 w23 hH24 => A1 9 <| AO.app rfl gnone rfl hH24 (j := 3) rfl (fun _ => (sQ (sP (sP (sQ sR))))) (Hp.slFlat valL_len hH24 (i := 0) (l := [_]) rfl (by simp [maxLen])) rfl rfl underlying40 rfl rfl (size := 9) (bytes := 80) rfl rfl rfl (by decide) (vals_one _) (by simp only [List.length_cons, List.length_nil]; omega) (by simp only [maxLen, List.length_cons, List.length_nil]; omega) <| fun v28 w26 hH27 => ?_
   simp only [z2] at hH27
   refine AQ 10 rfl (hH27.sub (sQ (sP (sP (sQ sR))))) (run_assign (by conv => lhs; whnf)) ?_
   refine AD <| CW.region <| V (run_add e12_2 rfl (by omega)) <| mI rfl <| RL.nil <| ?_
   refine ⟨(k + 1, m2 ++ [⟨(l.getD k.toNat val0).name, meetE (l.getD k.toNat val0).el (getF m (l.getD k.toNat val0).name).1⟩], v28), ?_, fr2.u4.u4.u4.u4.u4.u4.u1.u1.u1, (Hp.conv (hH27.sub (sQ (sQ (sQ sR)))) (by simp)), rfl, (congrArg I (by rfl)), ?_, ?_, ?_, ?_⟩
   ·((try dsimp only); omega)
   ·omega
   ·omega
   ·(rw [hm2]; exact both_one h0 ‹k < _› ‹(getF _ _).2 = true›)
   ·(simp only [List.length_append, List.length_singleton]; omega)
  ·refine CW.skip <| CW.region <| V (run_add e12_2 rfl (by omega)) <| mI rfl <| RL.nil <| ?_
   refine ⟨(k + 1, m2, v5), ?_, fr2.u4.u4.u4.u4, (Hp.conv (hH17.sub (sQ (sQ sR))) (by rfl)), e5_2, (congrArg I (by rfl)), ?_, ?_, ?_, ?_⟩
   ·((try dsimp only); omega)
   ·omega
   ·omega
   ·(rw [hm2]; exact both_not h0 ‹k < _› ‹(getF _ _).2 = false›)
   ·omega
 ·refine CW.exit (id := 0) rfl <| SR <| vm e5_2 <| ?_
  refine V (run_assign (by conv => lhs; whnf)) ?_
  refine RL.nil <| CW.ret <| ?_
  obtain ⟨Z29, hz30, hv31, -⟩ := hH2.frz (K)
  have hH32 : Hp _ w2 (Z29) := hz30.zin0 (L := [])
  refine out1 Tryd.results30 (v := v5) rfl ⟨Z29, (hH32.sub sR), ?_⟩
  rw [← both_all ‹¬ k < _›, ← hm2]; exact hv31
theorem c_assign_Meet (K : Vu) (a b : Asg) (hrl : ∀ r ∈ a.rows, r.l.length ≤ 1000) (hla : a.labels.length ≤ 1000) (hlr : a.rows.length ≤ 1000) (w : World) (hK : Le K (Kw w)) (ha : AsgV K a) (hb : AsgV K b) : Calls Tryd.prog 14 #[.agg (asgL a).toArray, .agg (asgL b).toArray] w (PureF K (fun K' u => ∃ m : Asg, u = .agg (asgL m).toArray ∧ m.as = meetA a.as b.as ∧ AsgV K' m) w) := by
 have hm1 := ha.labels.small
 have hm2 := ha.rows.small
 have hm3 := hb.labels.small
 have hm4 := hb.rows.small
 unfold maxLen at hm1 hm2 hm3 hm4
 refine enter Tryd.func14 rfl Tryd.ntmps14 rfl <| have hH := Hp.start w; SR <| RL.new rfl hH (f := fun b => (.pointer (some ⟨b, 0, none⟩))) (run_box (v := .agg _) rfl) <| fun b3 w1 hH2 => RL.new rfl hH2 (f := fun b => (.pointer (some ⟨b, 0, none⟩))) (run_box (v := .agg _) rfl) <| fun b6 w4 hH5 => RL.new rfl hH5 (f := fun b => (.pointer (some ⟨b, 0, none⟩))) (run_alloc zero_asg) <| fun b9 w7 hH8 => RL.nil <| SR <| RL.new rfl hH8 (f := fun b => .pointer (some ⟨b, 0, none⟩)) (run_alloc zero_asg) <| fun b12 w10 hH11 => have hH13 := hH11.nilRow 33 8; have hH14 := hH13.nilRow 40 1; RL.nil <| CW.seq <| SR <| V (fA underlying28 0 rfl sizeOf25 rfl) <| V (run_ldV ((ha.mono hK).labels.sl.hp hH14) underlying25 rfl rfl (hH14.cell (i := 5) rfl rfl)) <| V (run_lenSl ((ha.mono hK).labels.sl.hp hH14) rfl underlying25 rfl) <| V (fA underlying28 0 rfl sizeOf25 rfl) <| V (run_ldV ((hb.mono hK).labels.sl.hp hH14) underlying25 rfl rfl (hH14.cell (i := 4) rfl rfl)) <| V (run_lenSl ((hb.mono hK).labels.sl.hp hH14) rfl underlying25 rfl) <| V (run_minI rfl rfl) <| vm (v := I 0) rfl <| RL.nil <| CW.block <| CW.loop (G := Int × Value × (List El)) (fun ⟨k, v0, ls⟩ s' w' => (Fr (6 :: (rg 15 20 [])) _ s') ∧ (Hp w w' (_ :: .row v0 33 8 (ls.length) (ls.flatMap elL) :: .blk b12 (.cells (#[v0, .slice none 0 0]) 28 (0, 0)) :: _)) ∧ (s' 15 = I k) ∧ (0 ≤ k) ∧ (k ≤ a.labels.length) ∧ (ls = ((a.labels.zip b.labels).take k.toNat).map fun p => meetE p.1 p.2) ∧ ((ls.length : Int) = k)) (fun ⟨k, v0, ls⟩ => (a.labels.length - k).toNat) ((0, (.slice none 0 0 : Value), [])) ⟨Fr.refl _ _, hH14, rfl, (by omega), (by omega), rfl, rfl⟩ <| ?_
 rintro ⟨k, v0, ls⟩ sg15 w15 ⟨fr15, hH15, e15_15, h0, hk, hm, hl⟩
 have e2_15 := fr15.pp 2 rfl rfl
 have e3_15 := fr15.pp 3 rfl rfl
 have e4_15 := fr15.pp 4 rfl rfl
 have e5_15 := fr15.pp 5 rfl rfl
 have e14_15 := fr15.ii 14 rfl rfl
 refine SR <| V (run_lss e15_15 e14_15) <| RL.nil <| CW.seq <| CW.condP rfl (fun h17 => ?_) (fun h17 => ?_)
 ·refine CW.skip <| CW.seq <| CW.block <| SR <| vm e15_15 <| aI rfl <| RL.nil <| CW.regionS (by kernel_rfl) hH15 (sP (sQ (sQ sR))) <| fun w18 hH19 => have zh19 := hH19.sub (sP (sQ (sQ sR))); AQ 0 rfl zh19 (fA underlying28 0 rfl sizeOf25 e5_15) <| AQ 2 rfl zh19 (fA underlying28 0 rfl sizeOf25 e2_15) <| AT 3 rfl zh19 (fun w hS => run_ldV ((ha.mono hK).labels.sl.hp hS) underlying25 rfl rfl (hS.cell (i := 3) rfl rfl)) <| AQ 4 rfl zh19 (mV (I _) rfl) <| AT 5 rfl zh19 (fun w hS => run_indexAddrS ((ha.mono hK).labels.sl.hp hS) underlying25 sizeOf33 rfl rfl (by omega)) <| AT 6 rfl zh19 (fun w hS => run_ldElS ((ha.mono hK).labels.sl.hp hS) underlying33 rfl rfl rfl (by omega)) <| AQ 7 rfl zh19 (fA underlying28 0 rfl sizeOf25 e3_15) <| AT 8 rfl zh19 (fun w hS => run_ldV ((hb.mono hK).labels.sl.hp hS) underlying25 rfl rfl (hS.cell (i := 2) rfl rfl)) <| AQ 9 rfl zh19 (mV (I _) rfl) <| AT 10 rfl zh19 (fun w hS => run_indexAddrS ((hb.mono hK).labels.sl.hp hS) underlying25 sizeOf33 rfl rfl (by omega)) <| AT 11 rfl zh19 (fun w hS => run_ldElS ((hb.mono hK).labels.sl.hp hS) underlying33 rfl rfl rfl (by omega)) <| AN.two 1 12 (by kernel_rfl) ?_ ?_
  ·refine AO.read rfl gnone rfl hH19 (sP (sQ (sQ sR))) (run_ld underlying25 rfl rfl (hH19.cell (i := 2) rfl rfl)) <| A1 12 <| AO.callP rfl gnone rfl hH19 (sP (sQ (sQ sR))) (c_shape_Meet _ _  _) (run_call2 call29 rfl rfl) <| fun w22 hH23 => A1 13 <| AO.new rfl gnone rfl hH23 (sP (sQ (sQ sR))) (f := fun b => .slice (some ⟨b, 0, none⟩) 1 1) (run_mkEl1 underlying25 rfl rfl rfl rfl) <| fun b26 w24 hH25 => ?_
   (try simp only [clX] at hH25)
   refine A1 14 <| AO.app rfl gnone rfl hH25 (j := 2) rfl (fun _ => (sQ (sP (sQ (sQ sR))))) (Hp.slFlat elL_len hH25 (i := 0) (l := [_]) rfl (by simp [maxLen])) rfl rfl underlying25 rfl rfl (size := 8) (bytes := 64) rfl rfl rfl (by decide) (els_one _) (by show (ls.length + 1) * _ ≤ _; omega) (by show ls.length + 1 ≤ _; simp only [maxLen]; omega) <| fun v29 w27 hH28 => ?_
   simp only [z2] at hH28
   refine AQ 15 rfl (hH28.sub (sQ (sP (sQ (sQ sR))))) (fA underlying28 0 rfl sizeOf25 e5_15) <| A1 16 <| AO.set rfl gnone hH28 (j := 3) rfl (sQ (sP (sQ (sQ sR)))) (run_st rfl rfl (v := v29) rfl (row_cells (hH28.get (i := 2) rfl)).1 (row_cells (hH28.get (i := 2) rfl)).2 (hH28.blk (i := 3) rfl) (by show 0 < 2; decide)) <| fun w32 hH33 => ?_
   simp only [z2] at hH33
   refine AD <| CW.region <| V (run_add e15_15 rfl (by omega)) <| mI rfl <| RL.nil <| ?_
   refine ⟨(k + 1, v29, (ls ++ [meetE (a.labels.getD k.toNat el0) (b.labels.getD k.toNat el0)])), ?_, fr15.u4.u4.u4.u4.u4.u1, (Hp.conv (hH33.sub (sQ sR)) (by simp; done)), (congrArg I (by rfl)), ?_, ?_, ?_, ?_⟩
   ·((try dsimp only); omega)
   ·omega
   ·omega
   ·rw [hm]; exact labels_next (a := a.as) (b := b.as) h0 (show k < a.labels.length by omega) (show k < b.labels.length by omega)
   ·simp only [List.length_append, List.length_singleton]; omega
  ·refine AO.callP rfl gnone rfl hH19 (sP (sQ (sQ sR))) (c_shape_Meet _ _  _) (run_call2 call29 rfl rfl) <| fun w34 hH35 => AN.two 1 13 (by kernel_rfl) ?_ ?_
   ·refine AO.read rfl gnone rfl hH35 (sP (sQ (sQ sR))) (run_ld underlying25 rfl rfl (hH35.cell (i := 2) rfl rfl)) <| A1 13 <| AO.new rfl gnone rfl hH35 (sP (sQ (sQ sR))) (f := fun b => .slice (some ⟨b, 0, none⟩) 1 1) (run_mkEl1 underlying25 rfl rfl rfl rfl) <| fun b40 w38 hH39 => ?_
    (try simp only [clX] at hH39)
    refine A1 14 <| AO.app rfl gnone rfl hH39 (j := 2) rfl (fun _ => (sQ (sP (sQ (sQ sR))))) (Hp.slFlat elL_len hH39 (i := 0) (l := [_]) rfl (by simp [maxLen])) rfl rfl underlying25 rfl rfl (size := 8) (bytes := 64) rfl rfl rfl (by decide) (els_one _) (by show (ls.length + 1) * _ ≤ _; omega) (by show ls.length + 1 ≤ _; simp only [maxLen]; omega) <| fun v43 w41 hH42 => ?_
    simp only [z2] at hH42
    refine AQ 15 rfl (hH42.sub (sQ (sP (sQ (sQ sR))))) (fA underlying28 0 rfl sizeOf25 e5_15) <| A1 16 <| AO.set rfl gnone hH42 (j := 3) rfl (sQ (sP (sQ (sQ sR)))) (run_st rfl rfl (v := v43) rfl (row_cells (hH42.get (i := 2) rfl)).1 (row_cells (hH42.get (i := 2) rfl)).2 (hH42.blk (i := 3) rfl) (by show 0 < 2; decide)) <| fun w46 hH47 => ?_
    simp only [z2] at hH47
    refine AD <| CW.region <| V (run_add e15_15 rfl (by omega)) <| mI rfl <| RL.nil <| ?_
    refine ⟨(k + 1, v43, (ls ++ [meetE (a.labels.getD k.toNat el0) (b.labels.getD k.toNat el0)])), ?_, fr15.u4.u4.u4.u4.u4.u1, (Hp.conv (hH47.sub (sQ sR)) (by simp; done)), (congrArg I (by rfl)), ?_, ?_, ?_, ?_⟩
    ·((try dsimp only); omega)
    ·omega
    ·omega
    ·rw [hm]; exact labels_next (a := a.as) (b := b.as) h0 (show k < a.labels.length by omega) (show k < b.labels.length by omega)
    ·simp only [List.length_append, List.length_singleton]; omega
   ·refine AO.new rfl gnone rfl hH35 (sP (sQ (sQ sR))) (f := fun b => .slice (some ⟨b, 0, none⟩) 1 1) (run_mkEl1 underlying25 rfl rfl rfl rfl) <| fun b50 w48 hH49 => ?_
    (try simp only [clX] at hH49)
    refine A1 1 <| AO.read rfl gnone rfl hH49 (sQ (sP (sQ (sQ sR)))) (run_ld underlying25 rfl rfl (hH49.cell (i := 3) rfl rfl)) <| A1 14 <| AO.app rfl gnone rfl hH49 (j := 2) rfl (fun _ => (sQ (sP (sQ (sQ sR))))) (Hp.slFlat elL_len hH49 (i := 0) (l := [_]) rfl (by simp [maxLen])) rfl rfl underlying25 rfl rfl (size := 8) (bytes := 64) rfl rfl rfl (by decide) (els_one _) (by show (ls.length + 1) * _ ≤ _; omega) (by show ls.length + 1 ≤ _; simp only [maxLen]; omega) <| fun v55 w53 hH54 => ?_
    simp only [z2] at hH54
    refine AQ 15 rfl (hH54.sub (sQ (sP (sQ (sQ sR))))) (fA underlying28 0 rfl sizeOf25 e5_15) <| A1 16 <| AO.set rfl gnone hH54 (j := 3) rfl (sQ (sP (sQ (sQ sR)))) (run_st rfl rfl (v := v55) rfl (row_cells (hH54.get (i := 2) rfl)).1 (row_cells (hH54.get (i := 2) rfl)).2 (hH54.blk (i := 3) rfl) (by show 0 < 2; decide)) <| fun w58 hH59 => ?_
    simp only [z2] at hH59
    refine AD <| CW.region <| V (run_add e15_15 rfl (by omega)) <| mI rfl <| RL.nil <| ?_
    refine ⟨(k + 1, v55, (ls ++ [meetE (a.labels.getD k.toNat el0) (b.labels.getD k.toNat el0)])), ?_, fr15.u4.u4.u4.u4.u4.u1, (Hp.conv (hH59.sub (sQ sR)) (by simp; done)), (congrArg I (by rfl)), ?_, ?_, ?_, ?_⟩
    ·((try dsimp only); omega)
    ·omega
    ·omega
    ·rw [hm]; exact labels_next (a := a.as) (b := b.as) h0 (show k < a.labels.length by omega) (show k < b.labels.length by omega)
    ·simp only [List.length_append, List.length_singleton]; omega
 ·refine CW.exit (id := 0) rfl <| CW.seq <| SR <| V (fA underlying28 1 rfl sizeOf26 e2_15) <| V (run_ldV ((ha.mono hK).rows.sl.hp hH15) underlying26 rfl rfl (hH15.cell (i := 5) rfl rfl)) <| V (run_lenSl ((ha.mono hK).rows.sl.hp hH15) rfl underlying26 rfl) <| V (fA underlying28 1 rfl sizeOf26 e3_15) <| V (run_ldV ((hb.mono hK).rows.sl.hp hH15) underlying26 rfl rfl (hH15.cell (i := 4) rfl rfl)) <| V (run_lenSl ((hb.mono hK).rows.sl.hp hH15) rfl underlying26 rfl) <| V (run_minI rfl rfl) <| vm (v := I 0) rfl <| RL.nil <| CW.block <| CW.loop (G := Int × Value × (List VrR) × (List Ent)) (fun ⟨j, v1, gr, Z⟩ s' w' => (Fr (7 :: (rg 42 20 [])) _ s') ∧ (Hp w w' (.row v1 40 1 (gr.length) (rowsC gr) :: _ :: .blk b12 (.cells (#[v0, v1]) 28 (0, 0)) :: _ :: _ :: _ :: Z)) ∧ (s' 42 = I j) ∧ (0 ≤ j) ∧ (j ≤ a.rows.length) ∧ (gr.map VrR.l = ((a.as.rows.zip b.as.rows).take j.toNat).map fun p => bothF p.1 p.2) ∧ (RowsV (Kz K Z) gr) ∧ ((gr.length : Int) = j)) (fun ⟨j, v1, gr, Z⟩ => (a.rows.length - j).toNat) ((0, (.slice none 0 0 : Value), [], [])) ⟨Fr.refl _ _, hH15, rfl, (by omega), (by omega), rfl, RowsV.nil _, rfl⟩ <| ?_
  rintro ⟨j, v1, gr, Z⟩ sg60 w60 ⟨fr60, hH60, e42_60, j0, jk, hmr, hr, hgl⟩
  have e2_60 := (fr60 2 rfl).trans e2_15
  have e3_60 := (fr60 3 rfl).trans e3_15
  have e4_60 := (fr60 4 rfl).trans e4_15
  have e5_60 := (fr60 5 rfl).trans e5_15
  have e41_60 := fr60.ii 41 rfl rfl
  refine SR <| V (run_lss e42_60 e41_60) <| RL.nil <| CW.seq <| CW.condP rfl (fun h62 => ?_) (fun h62 => ?_)
  ·refine CW.skip <| CW.seq <| CW.block <| SR <| vm e42_60 <| aI rfl <| RL.nil <| CW.regionS (by kernel_rfl) hH60 (sQ (sP (sQ sR))) <| fun w63 hH64 => have zh64 := hH64.sub (sQ (sP (sQ sR))); AQ 0 rfl zh64 (fA underlying28 1 rfl sizeOf26 e5_60) <| AQ 2 rfl zh64 (fA underlying28 1 rfl sizeOf26 e2_60) <| AT 3 rfl zh64 (fun w hS => run_ldV ((ha.mono hK).rows.sl.hp hS) underlying26 rfl rfl (hS.cell (i := 3) rfl rfl)) <| AQ 4 rfl zh64 (mV (I _) rfl) <| AT 5 rfl zh64 (fun w hS => run_indexAddrS ((ha.mono hK).rows.sl.hp hS) underlying26 sizeOf40 rfl rfl (by omega)) <| AT 6 rfl zh64 (fun w hS => run_ld underlying40 rfl rfl (((ha.mono hK).rows.sl.hp hS).cell _ _ (rowsC_at (by omega)))) <| AQ 7 rfl zh64 (fA underlying28 1 rfl sizeOf26 e3_60) <| AT 8 rfl zh64 (fun w hS => run_ldV ((hb.mono hK).rows.sl.hp hS) underlying26 rfl rfl (hS.cell (i := 2) rfl rfl)) <| AQ 9 rfl zh64 (mV (I _) rfl) <| AT 10 rfl zh64 (fun w hS => run_indexAddrS ((hb.mono hK).rows.sl.hp hS) underlying26 sizeOf40 rfl rfl (by omega)) <| AT 11 rfl zh64 (fun w hS => run_ld underlying40 rfl rfl (((hb.mono hK).rows.sl.hp hS).cell _ _ (rowsC_at (by omega)))) <| AN.two 1 12 (by kernel_rfl) ?_ ?_
   ·refine AO.read rfl gnone rfl hH64 (sQ (sP (sQ sR))) (run_ld underlying26 rfl rfl (hH64.cell (i := 2) rfl rfl)) <| A1 12 <| AO.callF rfl gnone rfl hH64 (sQ (sP (sQ sR))) (c_assign_both K _ _ _ _ (by have := hrl _ (List.mem_of_getElem? (getD_at (d := vr0) j0 (by omega))); omega) _ (hK.trans hH64.kw) (((ha.mono hK).at (by omega) (by omega)).sl.hp hH64) (((hb.mono hK).at (by omega) (by omega)).sl.hp hH64)) (run_call2 call30 rfl rfl) <| fun v69 w70 Z72 hH71 hp73 => have hH74 : Hp _ w70 (_ :: _ :: _ :: _ :: _ :: _ :: (Z72 ++ Z)) := hH71.zin (L := [_, _, _, _, _, _]) (L' := Z); have hv75 := hp73; A1 13 <| AO.new rfl gnone rfl hH74 (sQ (sP (sQ (sP (sP (sP (sA sR))))))) (f := fun b => .slice (some ⟨b, 0, none⟩) 1 1) (run_mkSl1 (v := v69) (one_slv hv75).2 underlying26 rfl rfl rfl rfl) <| fun b78 w76 hH77 => ?_
    (try simp only [clX] at hH77)
    refine A1 14 <| AO.app rfl gnone rfl hH77 (j := 1) rfl (fun _ => (sQ (sQ (sP (sQ (sP (sP (sP (sA sR))))))))) (hH77.slBlk (i := 0) (n := 1) (sz := 1) rfl rfl (by decide)) rfl rfl underlying26 rfl rfl (size := 1) (bytes := 24) rfl rfl rfl (by decide) (one_one (one_slv hv75).1) (by show (gr.length + 1) * _ ≤ _; omega) (by show gr.length + 1 ≤ _; simp only [maxLen]; omega) <| fun v81 w79 hH80 => ?_
    simp only [z2] at hH80
    refine AQ 15 rfl (hH80.sub (sQ (sQ (sP (sQ (sP (sP (sP (sA sR))))))))) (fA underlying28 1 rfl sizeOf26 e5_60) <| A1 16 <| AO.set rfl gnone hH80 (j := 3) rfl (sQ (sQ (sP (sQ (sP (sP (sP (sA sR)))))))) (run_st rfl rfl (v := v81) rfl (row_cells (hH80.get (i := 1) rfl)).1 (row_cells (hH80.get (i := 1) rfl)).2 (hH80.blk (i := 3) rfl) (by show 1 < 2; decide)) <| fun w84 hH85 => ?_
    simp only [z2] at hH85
    refine AD <| CW.region <| V (run_add e42_60 rfl (by omega)) <| mI rfl <| RL.nil <| ?_
    refine ⟨(j + 1, v81, (gr ++ [(⟨v69, bothF (a.rows.getD j.toNat vr0).l (b.rows.getD j.toNat vr0).l⟩ : VrR)]), (Z72 ++ Z)), ?_, fr60.u4.u4.u4.u4.u4.u1, (Hp.conv (hH85.sub (sQ sR)) (by simp; done)), (congrArg I (by rfl)), ?_, ?_, ?_, ?_, ?_⟩
    ·((try dsimp only); omega)
    ·omega
    ·omega
    ·rw [List.map_append, hmr]; exact mrows_next j0 (by omega) (by omega)
    ·exact (hr.mono (Le.zz fun y hy => List.mem_append_right _ hy)).snoc (hv75.mono (Le.zz fun y hy => List.mem_append_left _ hy))
    ·simp only [List.length_append, List.length_singleton]; omega
   ·refine AO.callF rfl gnone rfl hH64 (sQ (sP (sQ sR))) (c_assign_both K _ _ _ _ (by have := hrl _ (List.mem_of_getElem? (getD_at (d := vr0) j0 (by omega))); omega) _ (hK.trans hH64.kw) (((ha.mono hK).at (by omega) (by omega)).sl.hp hH64) (((hb.mono hK).at (by omega) (by omega)).sl.hp hH64)) (run_call2 call30 rfl rfl) <| fun v88 w89 Z91 hH90 hp92 => have hH93 : Hp _ w89 (_ :: _ :: _ :: _ :: _ :: _ :: (Z91 ++ Z)) := hH90.zin (L := [_, _, _, _, _, _]) (L' := Z); have hv94 := hp92; AN.two 1 13 (by kernel_rfl) ?_ ?_
    ·refine AO.read rfl gnone rfl hH93 (sQ (sP (sQ (sP (sP (sP (sA sR))))))) (run_ld underlying26 rfl rfl (hH93.cell (i := 2) rfl rfl)) <| A1 13 <| AO.new rfl gnone rfl hH93 (sQ (sP (sQ (sP (sP (sP (sA sR))))))) (f := fun b => .slice (some ⟨b, 0, none⟩) 1 1) (run_mkSl1 (v := v88) (one_slv hv94).2 underlying26 rfl rfl rfl rfl) <| fun b99 w97 hH98 => ?_
     (try simp only [clX] at hH98)
     refine A1 14 <| AO.app rfl gnone rfl hH98 (j := 1) rfl (fun _ => (sQ (sQ (sP (sQ (sP (sP (sP (sA sR))))))))) (hH98.slBlk (i := 0) (n := 1) (sz := 1) rfl rfl (by decide)) rfl rfl underlying26 rfl rfl (size := 1) (bytes := 24) rfl rfl rfl (by decide) (one_one (one_slv hv94).1) (by show (gr.length + 1) * _ ≤ _; omega) (by show gr.length + 1 ≤ _; simp only [maxLen]; omega) <| fun v102 w100 hH101 => ?_
     simp only [z2] at hH101
     refine AQ 15 rfl (hH101.sub (sQ (sQ (sP (sQ (sP (sP (sP (sA sR))))))))) (fA underlying28 1 rfl sizeOf26 e5_60) <| A1 16 <| AO.set rfl gnone hH101 (j := 3) rfl (sQ (sQ (sP (sQ (sP (sP (sP (sA sR)))))))) (run_st rfl rfl (v := v102) rfl (row_cells (hH101.get (i := 1) rfl)).1 (row_cells (hH101.get (i := 1) rfl)).2 (hH101.blk (i := 3) rfl) (by show 1 < 2; decide)) <| fun w105 hH106 => ?_
     simp only [z2] at hH106
     refine AD <| CW.region <| V (run_add e42_60 rfl (by omega)) <| mI rfl <| RL.nil <| ?_
     refine ⟨(j + 1, v102, (gr ++ [(⟨v88, bothF (a.rows.getD j.toNat vr0).l (b.rows.getD j.toNat vr0).l⟩ : VrR)]), (Z91 ++ Z)), ?_, fr60.u4.u4.u4.u4.u4.u1, (Hp.conv (hH106.sub (sQ sR)) (by simp; done)), (congrArg I (by rfl)), ?_, ?_, ?_, ?_, ?_⟩
     ·((try dsimp only); omega)
     ·omega
     ·omega
     ·rw [List.map_append, hmr]; exact mrows_next j0 (by omega) (by omega)
     ·exact (hr.mono (Le.zz fun y hy => List.mem_append_right _ hy)).snoc (hv94.mono (Le.zz fun y hy => List.mem_append_left _ hy))
     ·simp only [List.length_append, List.length_singleton]; omega
    ·refine AO.new rfl gnone rfl hH93 (sQ (sP (sQ (sP (sP (sP (sA sR))))))) (f := fun b => .slice (some ⟨b, 0, none⟩) 1 1) (run_mkSl1 (v := v88) (one_slv hv94).2 underlying26 rfl rfl rfl rfl) <| fun b109 w107 hH108 => ?_
     (try simp only [clX] at hH108)
     refine A1 1 <| AO.read rfl gnone rfl hH108 (sQ (sQ (sP (sQ (sP (sP (sP (sA sR)))))))) (run_ld underlying26 rfl rfl (hH108.cell (i := 3) rfl rfl)) <| A1 14 <| AO.app rfl gnone rfl hH108 (j := 1) rfl (fun _ => (sQ (sQ (sP (sQ (sP (sP (sP (sA sR))))))))) (hH108.slBlk (i := 0) (n := 1) (sz := 1) rfl rfl (by decide)) rfl rfl underlying26 rfl rfl (size := 1) (bytes := 24) rfl rfl rfl (by decide) (one_one (one_slv hv94).1) (by show (gr.length + 1) * _ ≤ _; omega) (by show gr.length + 1 ≤ _; simp only [maxLen]; omega) <| fun v114 w112 hH113 => ?_
     simp only [z2] at hH113
     refine AQ 15 rfl (hH113.sub (sQ (sQ (sP (sQ (sP (sP (sP (sA sR))))))))) (fA underlying28 1 rfl sizeOf26 e5_60) <| A1 16 <| AO.set rfl gnone hH113 (j := 3) rfl (sQ (sQ (sP (sQ (sP (sP (sP (sA sR)))))))) (run_st rfl rfl (v := v114) rfl (row_cells (hH113.get (i := 1) rfl)).1 (row_cells (hH113.get (i := 1) rfl)).2 (hH113.blk (i := 3) rfl) (by show 1 < 2; decide)) <| fun w117 hH118 => ?_
     simp only [z2] at hH118
     refine AD <| CW.region <| V (run_add e42_60 rfl (by omega)) <| mI rfl <| RL.nil <| ?_
     refine ⟨(j + 1, v114, (gr ++ [(⟨v88, bothF (a.rows.getD j.toNat vr0).l (b.rows.getD j.toNat vr0).l⟩ : VrR)]), (Z91 ++ Z)), ?_, fr60.u4.u4.u4.u4.u4.u1, (Hp.conv (hH118.sub (sQ sR)) (by simp; done)), (congrArg I (by rfl)), ?_, ?_, ?_, ?_, ?_⟩
     ·((try dsimp only); omega)
     ·omega
     ·omega
     ·rw [List.map_append, hmr]; exact mrows_next j0 (by omega) (by omega)
     ·exact (hr.mono (Le.zz fun y hy => List.mem_append_right _ hy)).snoc (hv94.mono (Le.zz fun y hy => List.mem_append_left _ hy))
     ·simp only [List.length_append, List.length_singleton]; omega
  ·refine CW.exit (id := 2) rfl <| SR <| ?_
   obtain ⟨Z119, hz120, hv121, -⟩ := (hH60.perm (((pC pR).trans pS).trans (pC pR))).frz (K)
   have hH122 : Hp _ w60 (_ :: _ :: _ :: _ :: _ :: (Z119 ++ Z)) := hz120.zin (L := [_, _, _, _, _]) (L' := Z)
   obtain ⟨Z123, hz124, hv125, -⟩ := hH122.frz (K)
   have hH126 : Hp _ w60 (_ :: _ :: _ :: _ :: (Z123 ++ (Z119 ++ Z))) := hz124.zin (L := [_, _, _, _]) (L' := (Z119 ++ Z))
   have hN127 : AsgV (Kz K (Z123 ++ (Z119 ++ Z))) (⟨v0, ls, v1, gr⟩ : Asg) := ⟨(hv121.mono (Le.zz (fun x hx => (List.mem_append_right _ (List.mem_append_left _ hx))))), (hv125.mono (Le.zz (fun x hx => (List.mem_append_left _ hx)))), hr.mono (Le.zz (fun x hx => (List.mem_append_right _ (List.mem_append_right _ hx))))⟩
   refine V (run_ldA (cs := asgL (⟨v0, ls, v1, gr⟩ : Asg)) underlying28 rfl rfl e5_60 (rangeAt_cells (hH126.blk (i := 0) rfl))) <| RL.set hH126 (i := 1) rfl (run_stW (c' := (asgL (⟨v0, ls, v1, gr⟩ : Asg)).toArray) rfl e4_60 rfl (asgL_one hN127) (hH126.blk (i := 1) rfl) rfl) <| fun w128 hH129 => ?_
   simp only [z2] at hH129
   refine RL.nil <| CW.ret <| outCg Tryd.results14 e4_60 hH129 (i := 1) rfl underlying28 rfl rfl ⟨(Z123 ++ (Z119 ++ Z)), (hH129.sub (sQ (sQ (sQ (sQ sR))))), (⟨v0, ls, v1, gr⟩ : Asg), rfl, ?_, hN127⟩
   exact meet_is hm hmr (by omega) (by omega)
theorem c_clearancelaw13_Big (s : Scp) (w : World) (hs : ScpV (Kw w) s) : Calls Tryd.prog 23 #[.agg (scpC s)] w (Pure (B (bigScp s)) w) := by
 have hm1 := hs.lats.sl.small
 have hm2 := hs.vars.sl.small
 unfold maxLen at hm1 hm2
 refine enter Tryd.func23 rfl Tryd.ntmps23 rfl <| have hH := Hp.start w; SR <| RL.new rfl hH (f := fun b => (.pointer (some ⟨b, 0, none⟩))) (run_box (v := .agg _) rfl) <| fun b3 w1 hH2 => va (v := B false) rfl <| RL.nil <| CW.seq <| SR <| V (fA underlying48 0 rfl sizeOf45 rfl) <| V (run_ldV (hs.lats.sl.hp hH2) underlying45 rfl rfl (hH2.cell (i := 0) rfl rfl)) <| V (run_lenSl (hs.lats.sl.hp hH2) rfl underlying45 rfl) <| V (run_gtr rfl rfl) <| mB rfl <| RL.splitP (dj := 11) rfl (fun h5 => ?_) (fun h5 => ?_)
 ·refine gF rfl (bT h5) <| gF rfl (bT h5) <| gF rfl (bT h5) <| gF rfl (bT h5) <| V (run_pickT (bT h5) (v := B true) rfl) <| RL.nil <| CW.condT rfl <| SR <| va (v := B true) rfl <| RL.nil <| CW.ret <| outP1 Tryd.results23 (congrArg B ?_) hH2.below
  (rw [bigScp, decide_eq_true (by omega)]; rfl)
 ·refine gT rfl (bF h5) <| V (fA underlying48 1 rfl sizeOf46 rfl) <| gT rfl (bF h5) <| V (run_ldV (hs.vars.sl.hp hH2) underlying46 rfl rfl (hH2.cell (i := 0) rfl rfl)) <| gT rfl (bF h5) <| V (run_lenSl (hs.vars.sl.hp hH2) rfl underlying46 rfl) <| gT rfl (bF h5) <| V (run_gtr rfl rfl) <| V (run_pickF (bF h5) (v := B _) rfl) <| RL.nil <| CW.condP rfl (fun h7 => ?_) (fun h7 => ?_)
  ·refine SR <| va (v := B true) rfl <| RL.nil <| CW.ret <| outP1 Tryd.results23 (congrArg B ?_) hH2.below
   (rw [bigScp, decide_eq_true (by omega)]; rfl)
  ·refine CW.skip <| CW.seq <| SR <| V (fA underlying48 0 rfl sizeOf45 rfl) <| V (run_ldV (hs.lats.sl.hp hH2) underlying45 rfl rfl (hH2.cell (i := 0) rfl rfl)) <| V (run_lenSl (hs.lats.sl.hp hH2) rfl underlying45 rfl) <| vm (v := I 0) rfl <| RL.nil <| CW.block <| have hno : ¬ (20 < s.lats.length ∨ 80 < s.vars.length) := (by omega); CW.loop (G := Int) (fun k s' w' => (Fr (2 :: (4 :: (rg 20 14 []))) _ s') ∧ (Hp w w' _) ∧ (s' 20 = I k) ∧ (0 ≤ k) ∧ (k ≤ s.lats.length) ∧ (∀ j : Int, 0 ≤ j → j < k → bigL (s.lats.getD j.toNat lat0) = false)) (fun k => (s.lats.length - k).toNat) (0) ⟨Fr.refl _ _, hH2, rfl, (by omega), (by omega), fun j a b => absurd b (by omega)⟩ <| ?_
   rintro k sg8 w8 ⟨fr8, hH8, e20_8, h0, hk, hg⟩
   have e1_8 := fr8.pp 1 rfl rfl
   have e18_8 := (fr8 18 rfl).trans (by conv => lhs; whnf)
   have e19_8 := fr8.ii 19 rfl rfl
   refine SR <| V (run_lss e20_8 e19_8) <| RL.nil <| CW.seq <| CW.condP rfl (fun h10 => ?_) (fun h10 => ?_)
   ·refine CW.skip <| CW.seq <| CW.block <| SR <| V (run_indexAddrS (hs.lats.sl.hp hH8) underlying45 sizeOf72 e18_8 e20_8 (by omega)) <| V (run_ldE (dv := lat0) latL_len (hs.lats.sl.hp hH8) underlying72 rfl rfl rfl (by omega)) <| RL.new rfl hH8 (f := fun b => (.pointer (some ⟨b, 0, none⟩))) (run_alloc zero_lat) <| fun b13 w11 hH12 => RL.set hH12 (i := 0) rfl (run_stW (c' := (latL _).toArray) rfl rfl rfl (latL_one (hs.at (by omega) (by omega))) (hH12.blk (i := 0) rfl) rfl) <| fun w14 hH15 => ?_
    simp only [z2] at hH15
    refine RL.nil <| SR <| V (fA underlying72 1 rfl sizeOf70 rfl) <| V (run_ldSub (sub := shpL _) underlying70 rfl rfl rfl (hH15.blk (i := 0) rfl) rfl) <| RL.callP rfl hH15 (c_clearancelaw07_Big _  _ ((hs.at (by omega) (by omega)).mono hH15.kw)) (run_call1 call40 rfl) <| fun w16 hH17 => mB rfl <| RL.split (dj := 27) rfl (fun h19 => ?_) (fun h19 => ?_)
    ·refine gF rfl (bR (c := true) h19) <| gF rfl (bR (c := true) h19) <| gF rfl (bR (c := true) h19) <| gF rfl (bR (c := true) h19) <| V (run_pickT (bR (c := true) h19) (v := B true) rfl) <| RL.nil <| CW.condT rfl <| SR <| va (v := B true) rfl <| RL.nil <| CW.ret <| outP1 Tryd.results23 (congrArg B ?_) hH17.below
     (rw [bigScp, any_yes (d := lat0) (P := bigL) h0 ‹k < _› (by rw [bigL, Bool.or_eq_true]; exact .inl ‹_›)]; simp)
    ·refine gT rfl (bR (c := false) h19) <| V (fA underlying72 0 rfl sizeOf9 rfl) <| gT rfl (bR (c := false) h19) <| V (run_ld underlying9 rfl rfl (hH17.cell (i := 0) rfl (v := .string _) rfl)) <| gT rfl (bR (c := false) h19) <| V (run_lenStr rfl underlying9 rfl) <| gT rfl (bR (c := false) h19) <| V (run_gtr rfl rfl) <| V (run_pickF (bR (c := false) h19) (v := B _) rfl) <| RL.nil <| CW.condP rfl (fun h21 => ?_) (fun h21 => ?_)
     ·refine SR <| va (v := B true) rfl <| RL.nil <| CW.ret <| outP1 Tryd.results23 (congrArg B ?_) hH17.below
      (rw [bigScp, any_yes (d := lat0) (P := bigL) h0 ‹k < _› (by rw [bigL, Bool.or_eq_true]; exact .inr (decide_eq_true (by omega)))]; simp)
     ·refine CW.skip <| CW.region <| V (run_add e20_8 rfl (by omega)) <| mI rfl <| RL.nil <| ?_
      refine ⟨k + 1, ?_, fr8.u4.u4.u4.u1.u1.u1, (hH17.sub (sQ sR)), (congrArg I (by rfl)), ?_, ?_, ?_⟩
      ·((try dsimp only); omega)
      ·omega
      ·omega
      ·exact fun j a b => if e : j = k then e ▸ (by rw [bigL, Bool.or_eq_false_iff]; exact ⟨‹_›, decide_eq_false (by omega)⟩) else hg j a (by omega)
   ·refine CW.exit (id := 0) rfl <| CW.seq <| SR <| V (fA underlying48 1 rfl sizeOf46 e1_8) <| V (run_ldV (hs.vars.sl.hp hH8) underlying46 rfl rfl (hH8.cell (i := 0) rfl rfl)) <| V (run_lenSl (hs.vars.sl.hp hH8) rfl underlying46 rfl) <| vm (v := I 0) rfl <| RL.nil <| CW.block <| have hla : s.lats.any bigL = false := any_no (d := lat0) ‹_› hg; CW.loop (G := Int) (fun j s' w' => (Fr (2 :: (6 :: (rg 37 9 []))) _ s') ∧ (Hp w w' _) ∧ (s' 37 = I j) ∧ (0 ≤ j) ∧ (j ≤ s.vars.length) ∧ (∀ i : Int, 0 ≤ i → i < j → bigV (s.vars.getD i.toNat var0) = false)) (fun j => (s.vars.length - j).toNat) (0) ⟨Fr.refl _ _, hH8, rfl, (by omega), (by omega), fun j a b => absurd b (by omega)⟩ <| ?_
    rintro j sg22 w22 ⟨fr22, hH22, e37_22, j0, jk, hv⟩
    have e35_22 := (fr22 35 rfl).trans (by conv => lhs; whnf)
    have e36_22 := fr22.ii 36 rfl rfl
    refine SR <| V (run_lss e37_22 e36_22) <| RL.nil <| CW.seq <| CW.condP rfl (fun h24 => ?_) (fun h24 => ?_)
    ·refine CW.skip <| CW.seq <| CW.block <| SR <| V (run_indexAddrS (hs.vars.sl.hp hH22) underlying46 sizeOf74 e35_22 e37_22 (by omega)) <| V (run_ldE (dv := var0) varL_len (hs.vars.sl.hp hH22) underlying74 rfl rfl rfl (by omega)) <| RL.new rfl hH22 (f := fun b => (.pointer (some ⟨b, 0, none⟩))) (run_alloc Tryd.zeroValue74) <| fun b27 w25 hH26 => RL.set hH26 (i := 0) rfl (run_stW (c' := (varL _).toArray) rfl rfl rfl (by simp [varL, Value.oneCell']) (hH26.blk (i := 0) rfl) rfl) <| fun w28 hH29 => ?_
     simp only [z2] at hH29
     refine RL.nil <| SR <| V (fA underlying74 0 rfl sizeOf9 rfl) <| V (run_ld underlying9 rfl rfl (hH29.cell (i := 0) rfl (v := .string _) rfl)) <| V (run_lenStr rfl underlying9 rfl) <| V (run_gtr rfl rfl) <| RL.nil <| CW.condP rfl (fun h31 => ?_) (fun h31 => ?_)
     ·refine SR <| va (v := B true) rfl <| RL.nil <| CW.ret <| outP1 Tryd.results23 (congrArg B ?_) hH29.below
      (rw [bigScp, any_yes (d := var0) (P := bigV) j0 ‹j < _› (decide_eq_true (by omega))]; simp)
     ·refine CW.skip <| CW.region <| V (run_add e37_22 rfl (by omega)) <| mI rfl <| RL.nil <| ?_
      refine ⟨j + 1, ?_, fr22.u4.u4.u1.u1, (hH29.sub (sQ sR)), (congrArg I (by rfl)), ?_, ?_, ?_⟩
      ·((try dsimp only); omega)
      ·omega
      ·omega
      ·exact fun i a b => if e : i = j then e ▸ (decide_eq_false (by omega)) else hv i a (by omega)
    ·refine CW.exit (id := 2) rfl <| SR <| va (v := B false) rfl <| RL.nil <| CW.ret <| outP1 Tryd.results23 (congrArg B ?_) hH22.below
     (rw [bigScp, hla, any_no (d := var0) ‹_› hv, decide_eq_false hno]; rfl)
theorem c_code_Right (v : Value) (l : List InsR) (w : World) (hs : Sl w v 10 l.length (l.flatMap insL)) : Calls Tryd.prog 51 #[v] w (Pure (B (rightC l)) w) := by
 have hm := hs.small
 unfold maxLen at hm
 refine enter Tryd.func51 rfl Tryd.ntmps51 rfl <| have hH := Hp.start w; SR <| va (v := B false) rfl <| RL.nil <| SR <| va (v := I 0) rfl <| RL.nil <| CW.seq <| SR <| ?_
 refine V (run_move (by conv => lhs; whnf)) ?_
 refine V (run_lenSl (hs.hp hH) rfl underlying30 rfl) <| vm (v := I 0) rfl <| RL.nil <| CW.block <| CW.loop (G := Int × Int) (fun ⟨k, d⟩ s' w' => (Fr (2 :: 3 :: (5 :: (rg 8 29 []))) _ s') ∧ (Hp w w' _) ∧ (s' 3 = I d) ∧ (s' 8 = I k) ∧ (0 ≤ k) ∧ (k ≤ l.length) ∧ (deepTo l k = some d)) (fun ⟨k, d⟩ => (l.length - k).toNat) ((0, 0)) ⟨Fr.refl _ _, hH, rfl, rfl, (by omega), (by omega), deep_zero l⟩ <| ?_
 rintro ⟨k, d⟩ sg1 w1 ⟨fr1, hH1, e3_1, e8_1, h0, hk, hd⟩
 have e6_1 := (fr1 6 rfl).trans (by conv => lhs; whnf)
 have e7_1 := fr1.ii 7 rfl rfl
 have hdb := deep_bd h0 hk hd
 refine SR <| V (run_lss e8_1 e7_1) <| RL.nil <| CW.seq <| CW.condP rfl (fun h3 => ?_) (fun h3 => ?_)
 ·refine CW.skip <| CW.seq <| CW.block <| SR <| V (run_indexAddrS (hs.hp hH1) underlying30 sizeOf109 e6_1 e8_1 (by omega)) <| V (run_ldE (dv := ins0) insL_len (hs.hp hH1) underlying109 rfl rfl rfl (by omega)) <| RL.new rfl hH1 (f := fun b => (.pointer (some ⟨b, 0, none⟩))) (run_alloc zero_ins) <| fun b6 w4 hH5 => RL.set hH5 (i := 0) rfl (run_stW (c' := (insL _).toArray) rfl rfl rfl (insL_one _) (hH5.blk (i := 0) rfl) rfl) <| fun w7 hH8 => ?_
  simp only [z2] at hH8
  refine RL.nil <| SR <| V (fA underlying109 0 rfl sizeOf3 rfl) <| V (run_ld underlying3 rfl rfl (hH8.cell (i := 0) rfl (v := I _) rfl)) <| RL.nil <| CW.block <| CW.seq <| SR <| V (run_eql rfl rfl) <| aB rfl <| RL.nil <| CW.condP rfl (fun h10 => ?_) (fun h10 => ?_)
  ·refine CW.skip <| CW.condT (bT h10) <| CW.region <| vm e3_1 <| V (run_add rfl rfl (by omega)) <| aI rfl <| RL.nil <| CW.region <| V (run_add e8_1 rfl (by omega)) <| mI rfl <| RL.nil <| ?_
   refine ⟨(k + 1, d + 1), ?_, fr1.u4.u4.u4.u1, (hH8.sub (sQ sR)), (congrArg I (by rfl)), (congrArg I (by rfl)), ?_, ?_, ?_⟩
   ·((try dsimp only); omega)
   ·omega
   ·omega
   ·rw [deep_next h0 ‹k < _›, hd]; exact st_push (.inl ‹_›)
  ·refine CW.region <| V (run_eql rfl rfl) <| aB rfl <| RL.nil <| CW.condP rfl (fun h12 => ?_) (fun h12 => ?_)
   ·refine CW.region <| vm e3_1 <| V (run_add rfl rfl (by omega)) <| aI rfl <| RL.nil <| CW.region <| V (run_add e8_1 rfl (by omega)) <| mI rfl <| RL.nil <| ?_
    refine ⟨(k + 1, d + 1), ?_, fr1.u4.u4.u4.u1.u1.u1, (hH8.sub (sQ sR)), (congrArg I (by rfl)), (congrArg I (by rfl)), ?_, ?_, ?_⟩
    ·((try dsimp only); omega)
    ·omega
    ·omega
    ·rw [deep_next h0 ‹k < _›, hd]; exact st_push (.inr ‹_›)
   ·refine CW.seq <| SR <| V (run_eql rfl rfl) <| aB rfl <| RL.nil <| CW.condP rfl (fun h14 => ?_) (fun h14 => ?_)
    ·refine CW.skip <| CW.condT (bT h14) <| CW.seq <| SR <| V (fA underlying109 1 rfl sizeOf3 rfl) <| V (run_ld underlying3 rfl rfl (hH8.cell (i := 0) rfl (v := I _) rfl)) <| V (run_lss rfl rfl) <| mB rfl <| RL.splitP (dj := 25) rfl (fun h16 => ?_) (fun h16 => ?_)
     ·refine gF rfl (bT h16) <| gF rfl (bT h16) <| gF rfl (bT h16) <| gF rfl (bT h16) <| V (run_pickT (bT h16) (v := B true) rfl) <| RL.nil <| CW.condT rfl <| SR <| va (v := B false) rfl <| RL.nil <| CW.ret <| outP1 Tryd.results51 (congrArg B ?_) hH8.below
      exact (rc_no h0 ‹k < _› hd (st_bad (by omega) (by omega))).symm
     ·refine gT rfl (bF h16) <| V (fA underlying109 1 rfl sizeOf3 rfl) <| gT rfl (bF h16) <| V (run_ld underlying3 rfl rfl (hH8.cell (i := 0) rfl (v := I _) rfl)) <| gT rfl (bF h16) <| vm e3_1 <| gT rfl (bF h16) <| V (run_gtr rfl rfl) <| V (run_pickF (bF h16) (v := B _) rfl) <| RL.nil <| CW.condP rfl (fun h18 => ?_) (fun h18 => ?_)
      ·refine SR <| va (v := B false) rfl <| RL.nil <| CW.ret <| outP1 Tryd.results51 (congrArg B ?_) hH8.below
       exact (rc_no h0 ‹k < _› hd (st_bad (by omega) (by omega))).symm
      ·refine CW.skip <| CW.region <| vm e3_1 <| V (fA underlying109 1 rfl sizeOf3 rfl) <| V (run_ld underlying3 rfl rfl (hH8.cell (i := 0) rfl (v := I _) rfl)) <| V (run_sub rfl rfl (by omega)) <| V (run_sub rfl rfl (by omega)) <| aI rfl <| RL.nil <| CW.region <| V (run_add e8_1 rfl (by omega)) <| mI rfl <| RL.nil <| ?_
       refine ⟨(k + 1, d - (l.getD k.toNat ins0).n + 1), ?_, fr1.u4.u4.u4.u4.u4.u4.u4.u1, (hH8.sub (sQ sR)), (congrArg I (by omega)), (congrArg I (by rfl)), ?_, ?_, ?_⟩
       ·((try dsimp only); omega)
       ·omega
       ·omega
       ·rw [deep_next h0 ‹k < _›, hd]; exact st_pop (by omega) (by omega) (by omega)
    ·refine CW.region <| V (run_eql rfl rfl) <| aB rfl <| RL.nil <| CW.condP rfl (fun h20 => ?_) (fun h20 => ?_)
     ·refine CW.seq <| SR <| V (fA underlying109 1 rfl sizeOf3 rfl) <| V (run_ld underlying3 rfl rfl (hH8.cell (i := 0) rfl (v := I _) rfl)) <| V (run_lss rfl rfl) <| mB rfl <| RL.splitP (dj := 25) rfl (fun h22 => ?_) (fun h22 => ?_)
      ·refine gF rfl (bT h22) <| gF rfl (bT h22) <| gF rfl (bT h22) <| gF rfl (bT h22) <| V (run_pickT (bT h22) (v := B true) rfl) <| RL.nil <| CW.condT rfl <| SR <| va (v := B false) rfl <| RL.nil <| CW.ret <| outP1 Tryd.results51 (congrArg B ?_) hH8.below
       exact (rc_no h0 ‹k < _› hd (st_bad (by omega) (by omega))).symm
      ·refine gT rfl (bF h22) <| V (fA underlying109 1 rfl sizeOf3 rfl) <| gT rfl (bF h22) <| V (run_ld underlying3 rfl rfl (hH8.cell (i := 0) rfl (v := I _) rfl)) <| gT rfl (bF h22) <| vm e3_1 <| gT rfl (bF h22) <| V (run_gtr rfl rfl) <| V (run_pickF (bF h22) (v := B _) rfl) <| RL.nil <| CW.condP rfl (fun h24 => ?_) (fun h24 => ?_)
       ·refine SR <| va (v := B false) rfl <| RL.nil <| CW.ret <| outP1 Tryd.results51 (congrArg B ?_) hH8.below
        exact (rc_no h0 ‹k < _› hd (st_bad (by omega) (by omega))).symm
       ·refine CW.skip <| CW.region <| vm e3_1 <| V (fA underlying109 1 rfl sizeOf3 rfl) <| V (run_ld underlying3 rfl rfl (hH8.cell (i := 0) rfl (v := I _) rfl)) <| V (run_sub rfl rfl (by omega)) <| V (run_sub rfl rfl (by omega)) <| aI rfl <| RL.nil <| CW.region <| V (run_add e8_1 rfl (by omega)) <| mI rfl <| RL.nil <| ?_
        refine ⟨(k + 1, d - (l.getD k.toNat ins0).n + 1), ?_, fr1.u4.u4.u4.u4.u4.u4.u4.u1.u1.u1, (hH8.sub (sQ sR)), (congrArg I (by omega)), (congrArg I (by rfl)), ?_, ?_, ?_⟩
        ·((try dsimp only); omega)
        ·omega
        ·omega
        ·rw [deep_next h0 ‹k < _›, hd]; exact st_pop (by omega) (by omega) (by omega)
     ·refine SR <| va (v := B false) rfl <| RL.nil <| CW.ret <| outP1 Tryd.results51 (congrArg B ?_) hH8.below
      exact (rc_no h0 ‹k < _› hd (st_none (by omega) (by omega))).symm
 ·refine CW.exit (id := 0) rfl <| SR <| vm e3_1 <| V (run_eql rfl rfl) <| aB rfl <| RL.nil <| CW.ret <| outP1 Tryd.results51 (congrArg B ?_) hH1.below
  exact (rc_end hk ‹¬ k < _› hd).symm
end Go.Proofs.YtkdbiooamgnfmaaDoor.W
