/-
  The walks of the functions that the laws of this seat reach, part 1: each returns what its plain counterpart tells, and turns nothing that was there.
-/
import Derived.Test.YtdfbimlpondblaaGreatDoorProg
import Derived.Test.YtdfbimlpondblaaGreatDoorEnv
import Derived.Test.YtdfbimlpondblaaGreatDoorPlain
import Derived.Test.YtdfbimlpondblaaGreatDoorBase
import Derived.Tactics
import Derived.Tactics2
import Derived.Defers
import Derived.Laws.Pointers
import Derived.Laws.LoneSync
import Derived.RegionTactic
import Derived.RegionCalls
import Derived.ChangeAlike
import Derived.Test.YtdfbimlpondblaaGreatDoorOrd
import Derived.Test.YtdfbimlpondblaaGreatDoorRel
import Derived.Test.YtdfbimlpondblaaGreatDoorClo
import Derived.Test.YtdfbimlpondblaaGreatDoorCov
import Derived.Test.YtdfbimlpondblaaGreatDoorArr
import Derived.Test.YtdfbimlpondblaaGreatDoorHas
import Derived.Test.YtdfbimlpondblaaGreatDoorStr
import Derived.Test.YtdfbimlpondblaaGreatDoorVu
import Derived.Test.YtdfbimlpondblaaGreatDoorGrd
import Derived.Test.YtdfbimlpondblaaGreatDoorShp
import Derived.Test.YtdfbimlpondblaaGreatDoorShl
import Derived.Test.YtdfbimlpondblaaGreatDoorShq
import Derived.Test.YtdfbimlpondblaaGreatDoorShr
import Derived.Test.YtdfbimlpondblaaGreatDoorCut
import Derived.Test.YtdfbimlpondblaaGreatDoorRec
import Derived.Test.YtdfbimlpondblaaGreatDoorScp
import Derived.Test.YtdfbimlpondblaaGreatDoorNod
import Derived.Test.YtdfbimlpondblaaGreatDoorSpl
import Derived.Test.YtdfbimlpondblaaGreatDoorSpn
import Derived.Test.YtdfbimlpondblaaGreatDoorSpx
import Derived.Test.YtdfbimlpondblaaGreatDoorAsp
import Derived.Test.YtdfbimlpondblaaGreatDoorMk
import Derived.Test.YtdfbimlpondblaaGreatDoorAsr
import Derived.Test.YtdfbimlpondblaaGreatDoorAst
import Derived.Test.YtdfbimlpondblaaGreatDoorGap
import Derived.Test.YtdfbimlpondblaaGreatDoorFst
import Derived.Test.YtdfbimlpondblaaGreatDoorFsu
import Derived.Test.YtdfbimlpondblaaGreatDoorFsx
import Derived.Test.YtdfbimlpondblaaGreatDoorCel
import Derived.Test.YtdfbimlpondblaaGreatDoorTal
import Derived.Test.YtdfbimlpondblaaGreatDoorIns
import Derived.Test.YtdfbimlpondblaaGreatDoorCod
import Derived.Test.YtdfbimlpondblaaGreatDoorOpv
import Derived.Test.YtdfbimlpondblaaGreatDoorCal
import Derived.Test.YtdfbimlpondblaaGreatDoorMin
namespace Go.Proofs.YtdfbimlpondblaaGreatDoor.W
open Go Go.RowKit Go.Proofs.YtdfbimlpondblaaGreatDoor.E Go.Proofs.YtdfbimlpondblaaGreatDoor.M
set_option linter.unusedVariables false
set_option linter.unusedSimpArgs false
set_option maxRecDepth 100000
open Tryz
theorem zero_rel : ∀ w, (zeroValue 59).run Tryz.prog w = .ok (.agg (relC Rl.none)) w := fun w => by
  rw [relC_def]; exact Tryz.zeroValue59 w
theorem built_rel (a : Int) : Tryz.prog.built 59 [(0, I a)] = some (relC ⟨a, fun _ => 0#64⟩) := by
  rw [relC_def]; rfl
theorem elT_fact : ElT Tryz.prog 40 38 := ⟨Tryz.underlying40, Tryz.underlying38, Tryz.sizeOf38, Tryz.isAgg38, by kernel_rfl⟩
theorem zero_el : ∀ w, (zeroValue 40).run Tryz.prog w = .ok (.agg (elC el0)) w := fun w => by
  rw [elC_zero]; exact Tryz.zeroValue40 w
theorem zero_fac : ∀ w, (zeroValue 61).run Tryz.prog w = .ok (.agg (facC fac0)) w := fun w => Tryz.zeroValue61 w
theorem built_shp1 {v : Value} (h : v.cells = #[v]) : Tryz.prog.built 24 [(1, v)] = some #[B false, v] :=
  (show Tryz.prog.built 24 [(1, v)] = Instr.fill (#[(0, 1), (1, 1)][·]?) #[B false, .slice none 0 0] [(1, v)] from rfl).trans (by simp only [Instr.fill, h]; rfl)
theorem built_shp0 : Tryz.prog.built 24 [(0, B true)] = some #[B true, .slice none 0 0] := rfl
theorem built_fac (k : Int) (b n : Nat) (l : List Tx) : Tryz.prog.built 61 [(0, I k), (1, .slice (some ⟨b, 0, none⟩) n n)] = some (facC ⟨k, .slice (some ⟨b, 0, none⟩) n n, l, Rl.none⟩) := rfl
theorem built_el1 (a : BitVec 64) : Tryz.prog.built 40 [(0, U a)] = some (elC (putE el0 0 a)) := by
  rw [elC_def]; rfl
theorem built_el0 : Tryz.prog.built 40 [] = some (elC el0) := by
  rw [elC_def]; rfl
theorem zero_ins : ∀ w, (zeroValue 84).run Tryz.prog w = .ok (.agg (insL ins0).toArray) w := fun w => (Tryz.zeroValue84 w).trans (by kernel_rfl)
theorem built_tab (r : Rl) : Tryz.prog.built 102 [(0, .agg (relC r))] = some (tabL r 0 0 (.slice none 0 0) (.slice none 0 0)).toArray := by
  rw [relC_def]; kernel_rfl
theorem built_cnt (a b c : Int) : Tryz.prog.built 52 [(0, I a), (1, I b), (2, I c)] = some #[I a, I b, I c] := rfl
theorem built_met : Tryz.prog.built 73 [(0, B true)] = some #[B true, I 0, I 0, I 0] := rfl
abbrev TX : TaT := (⟨18, 20, 40, 25, 28, 30, 32, 24, 88, 77, 48, 33, 73, 102⟩ : TaT)
theorem built_ops (f g k : FuncId) (a b c : Array Value) : Tryz.prog.built 33 [(0, fnV f a), (1, fnV g b), (2, fnV k c)] = some #[fnV f a, fnV g b, fnV k c] := rfl
theorem zero_cal : ∀ w, (zeroValue 42).run Tryz.prog w = .ok (.agg (calL cal0).toArray) w := fun w => (Tryz.zeroValue42 w).trans (by kernel_rfl)
theorem zero_got : ∀ w, (zeroValue 44).run Tryz.prog w = .ok (.agg (ansL (el0, false)).toArray) w := fun w => (Tryz.zeroValue44 w).trans (by kernel_rfl)
theorem built_got1 (b : Bool) : Tryz.prog.built 44 [(1, B b)] = some (ansL (el0, b)).toArray := rfl
theorem built_got0 (e : El) : Tryz.prog.built 44 [(0, .agg (elC e))] = some (ansL (e, false)).toArray := by
  rw [elC_def]; kernel_rfl
theorem built_got01 (e : El) (b : Bool) : Tryz.prog.built 44 [(0, .agg (elC e)), (1, B b)] = some (ansL (e, b)).toArray := by
  rw [elC_def]; kernel_rfl
theorem eq_got (a b : El × Bool) : EqT Tryz.prog 44 (ansL a).toArray (ansL b).toArray (decide (eqE a.1 b.1) && a.2 == b.2) :=
  (eqT Tryz.underlying44 (by kernel_rfl) (by kernel_rfl) (.cons (fldEl (a := a.1) (b := b.1) (by decide) elT_fact Tryz.isAgg40 Tryz.sizeOf40 (ans_ext a) (ans_ext b)) (.cons (fldB (a := a.2) (b := b.2) (by decide) Tryz.underlying4 Tryz.isAgg4 (ans_bool a) (ans_bool b)) .nil))).conv (by simp)
theorem eq_cnt (a b c a' b' c' : Int) : EqT Tryz.prog 52 #[I a, I b, I c] #[I a', I b', I c'] (decide (a = a' ∧ b = b' ∧ c = c')) :=
  (eqT Tryz.underlying52 (by kernel_rfl) (by kernel_rfl) (.cons (fldI (by decide) Tryz.underlying3 Tryz.isAgg3 rfl rfl) (.cons (fldI (by decide) Tryz.underlying3 Tryz.isAgg3 rfl rfl) (.cons (fldI (by decide) Tryz.underlying3 Tryz.isAgg3 rfl rfl) .nil)))).conv (by rw [Bool.eq_iff_iff]; simp)
theorem zero_ops : ∀ w, (zeroValue 33).run Tryz.prog w = .ok (.agg #[.nilFunc, .nilFunc, .nilFunc]) w := fun w => Tryz.zeroValue33 w
theorem built_cnt12 (b c : Int) : Tryz.prog.built 52 [(1, I b), (2, I c)] = some #[I 0, I b, I c] := rfl
theorem c_mask_Below (n : Int) (w : World) : Calls Tryz.prog 98 #[I n] w (Pure (U (below n)) w) := by
 refine enter Tryz.func98 rfl Tryz.ntmps98 rfl <| have hH := Hp.start w; SR <| va (v := U 0#64) rfl <| RL.nil <| CW.seq <| SR <| mI rfl <| V (run_leq rfl rfl) <| RL.nil <| CW.condP rfl (fun h2 => ?_) (fun h2 => ?_)
 ·refine SR <| va (v := U 0#64) rfl <| RL.nil <| CW.ret <| outP1 Tryz.results98 (congrArg U (below_nonpos ‹_›).symm) hH.below
 ·refine CW.skip <| CW.seq <| SR <| mI rfl <| V (run_geq rfl rfl) <| RL.nil <| CW.condP rfl (fun h4 => ?_) (fun h4 => ?_)
  ·refine SR <| va (v := U 18446744073709551615#64) rfl <| RL.nil <| CW.ret <| outP1 Tryz.results98 (congrArg U (below_all ‹_›).symm) hH.below
  ·refine CW.skip <| SR <| mI rfl <| V (run_convIU underlying3 underlying127 rfl) <| V (run_shlU (a := 1#64) rfl rfl) <| V (run_subU rfl (b := 1#64) rfl) <| aU rfl <| RL.nil <| CW.ret <| outP1 Tryz.results98 (congrArg U (below_mid ‹_› ‹_›).symm) hH.below
theorem c_mask_in (i : Int) (w : World) : Calls Tryz.prog 106 #[I i] w (Pure (B (inB i)) w) := by
 refine enter Tryz.func106 rfl Tryz.ntmps106 rfl <| have hH := Hp.start w; SR <| va (v := B false) rfl <| RL.nil <| SR <| mI rfl <| V (run_geq rfl rfl) <| mB rfl <| RL.splitP (dj := 5) rfl (fun h2 => ?_) (fun h2 => ?_)
 ·refine gT rfl (bT h2) <| mI rfl <| gT rfl (bT h2) <| V (run_lss rfl rfl) <| V (run_pickT (bT h2) (v := B _) rfl) <| aB rfl <| RL.nil <| CW.ret <| outP1 Tryz.results106 (congrArg B ?_) hH.below
  (simp [inB]; try omega)
 ·refine gF rfl (bF h2) <| gF rfl (bF h2) <| V (run_pickF (bF h2) (v := B false) rfl) <| aB rfl <| RL.nil <| CW.ret <| outP1 Tryz.results106 (congrArg B ?_) hH.below
  (simp [inB]; try omega)
theorem c_mask_With (s : BitVec 64) (i : Int) (w : World) : Calls Tryz.prog 95 #[U s, I i] w (Pure (U (withB s i)) w) := by
 refine enter Tryz.func95 rfl Tryz.ntmps95 rfl <| have hH := Hp.start w; SR <| va (v := U 0#64) rfl <| RL.nil <| CW.seq <| SR <| mI rfl <| RL.callP rfl hH (c_mask_in _  _) (run_call1 call106 rfl) <| fun w1 hH2 => V (run_not rfl) <| RL.nil <| CW.cond rfl (fun h5 => ?_) (fun h5 => ?_)
 ·refine SR <| mU rfl <| aU rfl <| RL.nil <| CW.ret <| outP1 Tryz.results95 (congrArg U ?_) hH2.below
  simp_all [withB]
 ·refine CW.skip <| SR <| mU rfl <| mI rfl <| V (run_convIU underlying3 underlying127 rfl) <| V (run_shlU (a := 1#64) rfl rfl) <| V (run_orU rfl rfl) <| aU rfl <| RL.nil <| CW.ret <| outP1 Tryz.results95 (congrArg U ?_) hH2.below
  simp_all [withB]
theorem c_mask_Sub (a b : BitVec 64) (w : World) : Calls Tryz.prog 39 #[U a, U b] w (Pure (B (subB a b)) w) := by
 refine enter Tryz.func39 rfl Tryz.ntmps39 rfl <| have hH := Hp.start w; SR <| va (v := B false) rfl <| RL.nil <| SR <| mU rfl <| mU rfl <| V (run_andNotU rfl rfl) <| V (run_eqlU rfl (b := 0#64) rfl) <| aB rfl <| RL.nil <| CW.ret <| outP1 Tryz.results39 (congrArg B ?_) hH.below
 rfl
theorem c_mask_Of (v : Value) (l : List Int) (w : World) (hs : Sl w v 1 l.length (l.map I)) : Calls Tryz.prog 82 #[v] w (Pure (U (ofl l)) w) := by
 have hm := hs.small
 unfold maxLen at hm
 refine enter Tryz.func82 rfl Tryz.ntmps82 rfl <| have hH := Hp.start w; SR <| va (v := U 0#64) rfl <| RL.nil <| SR <| va (v := U 0#64) rfl <| RL.nil <| CW.seq <| SR <| ?_
 refine V (run_move (by conv => lhs; whnf)) ?_
 refine V (run_lenSl (hs.hp hH) rfl underlying111 rfl) <| vm (v := I 0) rfl <| RL.nil <| CW.block <| CW.loop (G := Int) (fun k s' w' => (Fr (3 :: (5 :: (rg 8 8 []))) _ s') ∧ (Hp w w' _) ∧ (s' 3 = U (ofl (l.take k.toNat))) ∧ (s' 8 = I k) ∧ (0 ≤ k) ∧ (k ≤ l.length)) (fun k => (l.length - k).toNat) (0) ⟨Fr.refl _ _, hH, (congrArg U (by simp [ofl_nil])), rfl, (by omega), (by omega)⟩ <| ?_
 rintro k sg1 w1 ⟨fr1, hH1, e3_1, e8_1, h0, hk⟩
 have e6_1 := (fr1 6 rfl).trans (by conv => lhs; whnf)
 have e7_1 := fr1.ii 7 rfl rfl
 refine SR <| V (run_lss e8_1 e7_1) <| RL.nil <| CW.seq <| CW.condP rfl (fun h3 => ?_) (fun h3 => ?_)
 ·refine CW.skip <| CW.seq <| CW.block <| SR <| V (run_indexAddrS (hs.hp hH1) underlying111 sizeOf3 e6_1 e8_1 (by omega)) <| V (run_ld underlying3 rfl rfl ((hs.hp hH1).cell _ _ (map_at (by omega)))) <| aI rfl <| RL.nil <| CW.region <| vm e3_1 <| mI rfl <| RL.callP rfl hH1 (c_mask_With _ _  _) (run_call2 call95 rfl rfl) <| fun w4 hH5 => aU rfl <| RL.nil <| CW.region <| V (run_add e8_1 rfl (by omega)) <| mI rfl <| RL.nil <| ?_
  refine ⟨k + 1, ?_, fr1.u4.u4.u1.u1, hH5, (congrArg U (by rw [withB_ofl, ← take_next h0 ‹_›])), (congrArg I (by rfl)), ?_, ?_⟩
  ·((try dsimp only); omega)
  ·omega
  ·omega
 ·refine CW.exit (id := 0) rfl <| SR <| vm e3_1 <| aU rfl <| RL.nil <| CW.ret <| outP1 Tryz.results82 (congrArg U ?_) hH1.below
  rw [take_all ‹_›]
theorem c_clearanceref01_Has (s : BitVec 64) (i : Int) (w : World) : Calls Tryz.prog 55 #[U s, I i] w (Pure (B (hasB s i)) w) := by
 refine enter Tryz.func55 rfl Tryz.ntmps55 rfl <| have hH := Hp.start w; SR <| va (v := B false) rfl <| RL.nil <| CW.seq <| SR <| mI rfl <| V (run_lss rfl rfl) <| mB rfl <| RL.splitP (dj := 8) rfl (fun h2 => ?_) (fun h2 => ?_)
 ·refine gF rfl (bT h2) <| gF rfl (bT h2) <| V (run_pickT (bT h2) (v := B true) rfl) <| RL.nil <| CW.condT rfl <| SR <| va (v := B false) rfl <| RL.nil <| CW.ret <| outP1 Tryz.results55 (congrArg B ?_) hH.below
  exact (has_no s (by simp [inB]; omega)).symm
 ·refine gT rfl (bF h2) <| mI rfl <| gT rfl (bF h2) <| V (run_gtr rfl rfl) <| V (run_pickF (bF h2) (v := B _) rfl) <| RL.nil <| CW.condP rfl (fun h4 => ?_) (fun h4 => ?_)
  ·refine SR <| va (v := B false) rfl <| RL.nil <| CW.ret <| outP1 Tryz.results55 (congrArg B ?_) hH.below
   exact (has_no s (by simp [inB]; omega)).symm
  ·refine CW.skip <| CW.seq <| SR <| va (v := I 0) rfl <| RL.nil <| CW.block <| CW.loop (G := Int) (fun k s' w' => (Fr (0 :: (5 :: (rg 12 7 []))) _ s') ∧ (Hp w w' _) ∧ (s' 0 = U (s >>> k.toNat)) ∧ (s' 5 = I k) ∧ (0 ≤ k) ∧ (k ≤ i)) (fun k => (i - k).toNat) (0) ⟨Fr.refl _ _, hH, (congrArg U (by simp)), rfl, (by omega), (by omega)⟩ <| ?_
   rintro k sg5 w5 ⟨fr5, hH5, e0_5, e5_5, h0, hk⟩
   have e1_5 := fr5.ii 1 rfl rfl
   refine CW.seq <| SR <| vm e5_5 <| vm e1_5 <| V (run_lss rfl rfl) <| RL.nil <| CW.condP rfl (fun h7 => ?_) (fun h7 => ?_)
   ·refine CW.skip <| CW.seq <| CW.block <| CW.region <| vm e0_5 <| V (run_quoU rfl (b := 2#64) rfl (by decide)) <| aU rfl <| RL.nil <| CW.region <| vm e5_5 <| V (run_add rfl rfl (by omega)) <| aI rfl <| RL.nil <| ?_
    refine ⟨k + 1, ?_, fr5.u4.u4.u1, hH5, (congrArg U (by rw [half, show (k + 1).toNat = k.toNat + 1 by omega])), (congrArg I (by rfl)), ?_, ?_⟩
    ·((try dsimp only); omega)
    ·omega
    ·omega
   ·refine CW.exit (id := 0) rfl <| SR <| vm e0_5 <| V (run_remU rfl (b := 2#64) rfl (by decide)) <| V (run_eqlU rfl (b := 1#64) rfl) <| aB rfl <| RL.nil <| CW.ret <| outP1 Tryz.results55 (congrArg B ?_) hH5.below
    (rw [hasB, show inB i = true by simp [inB]; omega, show k = i by omega]; rw [Bool.eq_iff_iff]; simp only [decide_eq_true_eq, Bool.true_and]; exact rem_bit s _)
theorem c_clearanceref01_Of (v : Value) (l : List Int) (w : World) (hs : Sl w v 1 l.length (l.map I)) : Calls Tryz.prog 66 #[v] w (Pure (U (ofl l)) w) := by
 have hm := hs.small
 unfold maxLen at hm
 refine enter Tryz.func66 rfl Tryz.ntmps66 rfl <| have hH := Hp.start w; SR <| va (v := U 0#64) rfl <| RL.nil <| SR <| va (v := U 0#64) rfl <| va (v := U 1#64) rfl <| RL.nil <| CW.seq <| SR <| va (v := I 0) rfl <| RL.nil <| CW.block <| CW.loop (G := Int) (fun i s' w' => (Fr (rg 3 25 []) _ s') ∧ (Hp w w' _) ∧ (s' 3 = U (oflTo l i.toNat)) ∧ (s' 4 = U (1#64 <<< i.toNat)) ∧ (s' 5 = I i) ∧ (0 ≤ i) ∧ (i ≤ 64)) (fun i => (64 - i).toNat) (0) ⟨Fr.refl _ _, hH, (congrArg U (by rfl)), (congrArg U (by rfl)), rfl, (by omega), (by omega)⟩ <| ?_
 rintro i sg1 w1 ⟨fr1, hH1, e3_1, e4_1, e5_1, i0, i1⟩
 have e0_1 := (fr1 0 rfl).trans (by conv => lhs; whnf)
 have e2_1 := fr1.uu 2 rfl rfl
 refine CW.seq <| SR <| vm e5_1 <| V (run_lss rfl rfl) <| RL.nil <| CW.condP rfl (fun h3 => ?_) (fun h3 => ?_)
 ·refine CW.skip <| CW.seq <| CW.block <| CW.seq <| SR <| va (v := I 0) rfl <| RL.nil <| CW.block <| CW.loop (G := Int) (fun k s' w' => (Fr (3 :: (6 :: (rg 11 15 []))) _ s') ∧ (Hp w w' _) ∧ (s' 3 = U (oflTo l i.toNat)) ∧ (s' 6 = I k) ∧ (0 ≤ k) ∧ (k ≤ l.length) ∧ (∀ j : Int, 0 ≤ j → j < k → l.getD j.toNat 0 ≠ i)) (fun k => (l.length - k).toNat) (0) ⟨Fr.refl _ _, hH1, e3_1, rfl, (by omega), (by omega), fun j a b => absurd b (by omega)⟩ <| ?_
  rintro k sg4 w4 ⟨fr4, hH4, e3_4, e6_4, k0, k1, hf⟩
  have e0_4 := (fr4 0 rfl).trans e0_1
  have e4_4 := (fr4 4 rfl).trans e4_1
  have e5_4 := (fr4 5 rfl).trans e5_1
  refine CW.seq <| SR <| vm e6_4 <| vm e0_4 <| V (run_lenSl (hs.hp hH4) rfl underlying111 rfl) <| V (run_lss rfl rfl) <| RL.nil <| CW.condP rfl (fun h6 => ?_) (fun h6 => ?_)
  ·refine CW.skip <| CW.seq <| CW.block <| SR <| vm e0_4 <| vm e6_4 <| V (run_indexAddrS (hs.hp hH4) underlying111 sizeOf3 rfl rfl (by omega)) <| V (run_ld underlying3 rfl rfl ((hs.hp hH4).cell _ _ (map_at (by omega)))) <| vm e5_4 <| V (run_eql rfl rfl) <| RL.nil <| CW.condP rfl (fun h8 => ?_) (fun h8 => ?_)
   ·refine SR <| vm e3_4 <| vm e4_4 <| V (run_addU rfl rfl) <| aU rfl <| RL.nil <| CW.exit (id := 2) rfl <| CW.region <| vm e4_4 <| V (run_mulU rfl (b := 2#64) rfl) <| aU rfl <| RL.nil <| CW.region <| vm e5_4 <| V (run_add rfl rfl (by omega)) <| aI rfl <| RL.nil <| ?_
    refine ⟨i + 1, ?_, (((fr1.u1.u1.u1).t fr4 rfl)).u4.u4.u4.u4.u4, hH4, (congrArg U (oflTo_yesI i0 (by omega) k0 (by omega) ‹_›)), (congrArg U (by rw [shl_two, show (i + 1).toNat = i.toNat + 1 by omega])), (congrArg I (by rfl)), ?_, ?_⟩
    ·((try dsimp only); omega)
    ·omega
    ·omega
   ·refine CW.skip <| CW.region <| vm e6_4 <| V (run_add rfl rfl (by omega)) <| aI rfl <| RL.nil <| ?_
    refine ⟨k + 1, ?_, fr4.u4.u4.u4.u1, hH4, e3_4, (congrArg I (by rfl)), ?_, ?_, ?_⟩
    ·((try dsimp only); omega)
    ·omega
    ·omega
    ·exact fun j a b => if e : j = k then e ▸ ‹¬ l.getD k.toNat 0 = i› else hf j a (by omega)
  ·refine CW.exit (id := 2) rfl <| CW.region <| vm e4_4 <| V (run_mulU rfl (b := 2#64) rfl) <| aU rfl <| RL.nil <| CW.region <| vm e5_4 <| V (run_add rfl rfl (by omega)) <| aI rfl <| RL.nil <| ?_
   refine ⟨i + 1, ?_, (((fr1.u1.u1.u1).t fr4 rfl)).u4.u4.u1.u1, hH4, (Eq.trans e3_4 (congrArg U (oflTo_noI i0 (fun j a b => hf j a (by omega))))), (congrArg U (by rw [shl_two, show (i + 1).toNat = i.toNat + 1 by omega])), (congrArg I (by rfl)), ?_, ?_⟩
   ·((try dsimp only); omega)
   ·omega
   ·omega
 ·refine CW.exit (id := 0) rfl <| SR <| vm e3_1 <| aU rfl <| RL.nil <| CW.ret <| outP1 Tryz.results66 (congrArg U ?_) hH1.below
  (rw [show i.toNat = 64 by omega]; rfl)
theorem c_clearanceref01_List (s : BitVec 64) (w : World) : Calls Tryz.prog 54 #[U s] w (PureRow 3 1 (lst s).length ((lst s).map I) w) := by
 refine enter Tryz.func54 rfl Tryz.ntmps54 rfl <| have hH := Hp.start w; SR <| va (v := .slice none 0 0) rfl <| have hH1 := hH.nilRow 3 1; RL.nil <| SR <| va (v := .slice none 0 0) rfl <| have hH2 := hH1.nilRow 3 1; RL.nil <| CW.seq <| SR <| va (v := I 0) rfl <| RL.nil <| CW.block <| CW.loop (G := Int × (List Int) × Value) (fun ⟨k, l, v3⟩ s' w' => (Fr (0 :: (rg 3 15 [])) _ s') ∧ (Hp w w' (.row v3 3 1 (l.length) (l.map I) :: _)) ∧ (s' 0 = U (s >>> k.toNat)) ∧ (s' 3 = v3) ∧ (s' 4 = I k) ∧ (0 ≤ k) ∧ (k ≤ 64) ∧ (l = lstTo s k.toNat)) (fun ⟨k, l, v3⟩ => (64 - k).toNat) ((0, [], (.slice none 0 0 : Value))) ⟨Fr.refl _ _, hH2, (congrArg U (by simp)), rfl, rfl, (by omega), (by omega), rfl⟩ <| ?_
 rintro ⟨k, l, v3⟩ sg3 w3 ⟨fr3, hH3, e0_3, e3_3, e4_3, h0, hk, hl⟩
 refine CW.seq <| SR <| vm e4_3 <| V (run_lss rfl rfl) <| RL.nil <| CW.condP rfl (fun h5 => ?_) (fun h5 => ?_)
 ·refine CW.skip <| CW.seq <| CW.block <| CW.seq <| SR <| vm e0_3 <| V (run_remU rfl (b := 2#64) rfl (by decide)) <| V (run_eqlU rfl (b := 1#64) rfl) <| RL.nil <| CW.condP rfl (fun h7 => ?_) (fun h7 => ?_)
  ·refine CW.region <| vm e3_3 <| vm e4_3 <| RL.new rfl hH3 (f := fun b => (.slice (some ⟨b, 0, none⟩) 1 1)) (run_mkL underlying111 rfl rfl (sz := 1) (vs := [I _]) rfl rfl (by decide) (by decide) rfl rfl) <| fun b10 w8 hH9 => ?_
   (try simp only [clX] at hH9)
   refine RL.app rfl hH9 (i := 1) rfl (hH9.slBlk (i := 0) (n := 1) (sz := 1) rfl rfl (by decide)) rfl rfl underlying111 rfl rfl (size := 1) (bytes := 8) rfl rfl rfl (by decide) (by simp [Value.oneCell']) (by have := lstTo_len s k.toNat; rw [← hl] at this; omega) (by have := lstTo_len s k.toNat; rw [← hl] at this; simp only [maxLen]; omega) <| fun v11 w12 hH13 => ?_
   simp only [z2] at hH13
   refine V (run_assign (by conv => lhs; whnf)) ?_
   refine RL.nil <| CW.region <| vm e0_3 <| V (run_quoU rfl (b := 2#64) rfl (by decide)) <| aU rfl <| RL.nil <| CW.region <| vm e4_3 <| V (run_add rfl rfl (by omega)) <| aI rfl <| RL.nil <| ?_
   refine ⟨(k + 1, l ++ [k], v11), ?_, fr3.u4.u4.u4.u4, (Hp.conv (hH13.sub (sQ sR)) (by simp)), (congrArg U (by rw [half, show (k + 1).toNat = k.toNat + 1 by omega])), rfl, (congrArg I (by rfl)), ?_, ?_, ?_⟩
   ·((try dsimp only); omega)
   ·omega
   ·omega
   ·rw [hl, lstTo_yes h0 ‹_›]
  ·refine CW.skip <| CW.region <| vm e0_3 <| V (run_quoU rfl (b := 2#64) rfl (by decide)) <| aU rfl <| RL.nil <| CW.region <| vm e4_3 <| V (run_add rfl rfl (by omega)) <| aI rfl <| RL.nil <| ?_
   refine ⟨(k + 1, l, v3), ?_, fr3.u4.u4.u1.u1.u1, (Hp.conv hH3 (by rfl)), (congrArg U (by rw [half, show (k + 1).toNat = k.toNat + 1 by omega])), e3_3, (congrArg I (by rfl)), ?_, ?_, ?_⟩
   ·((try dsimp only); omega)
   ·omega
   ·omega
   ·rw [hl, lstTo_no h0 ‹_›]
 ·refine CW.exit (id := 0) rfl <| SR <| vm e3_3 <| ?_
  refine V (run_assign (by conv => lhs; whnf)) ?_
  refine RL.nil <| CW.ret <| outR Tryz.results54 rfl hH3 (i := 0) rfl (by rw [hl, lstTo_end ‹_› hk]) (by rw [hl, lstTo_end ‹_› hk])
theorem c_bits_TrailingZeros64 (s : BitVec 64) (w : World) (hT : Tab w) : Calls Tryz.prog 107 #[U s] w (Pure (I (tz s)) w) := by
 refine enter Tryz.func107 rfl Tryz.ntmps107 rfl <| have hH := Hp.start w; SR <| va (v := I 0) rfl <| RL.nil <| CW.seq <| SR <| mU rfl <| V (run_eqlU rfl (b := 0#64) rfl) <| RL.nil <| CW.condP rfl (fun h2 => ?_) (fun h2 => ?_)
 ·refine SR <| va (v := I 64) rfl <| RL.nil <| CW.ret <| outP1 Tryz.results107 (congrArg I ?_) hH.below
  rw [‹s = 0#64›]; rfl
 ·refine CW.skip <| SR <| mU rfl <| mU rfl <| V (run_negU rfl) <| V (run_andU rfl rfl) <| V (run_mulU rfl (b := 285870213051353865#64) rfl) <| V (run_shrU rfl (b := 58#64) rfl) <| V (run_indexAddrA underlying148 sizeOf5 rfl rfl (by exact tz_idx _)) <| V (run_ld underlying5 rfl rfl (hT.at _)) <| V (run_convUI underlying5 underlying3 rfl (conv_bd (tztab_bd _))) <| aI rfl <| RL.nil <| CW.ret <| outP1 Tryz.results107 (congrArg I ?_) hH.below
  exact tz_ne ‹_›
theorem c_mask_Each (f : FuncId) (cap : Array Value) (Inv Stop : List Int → World → Prop) (s : BitVec 64) (w : World) (hf : ∀ args w, (callFunc f args).run Tryz.prog w = .ok (.enter f args) w) (hm : ∀ l w w', Inv l w → Below w.heap.size w w' → Inv l w') (hT : ∀ l w, Inv l w → Tab w) (go : ∀ l i r w, lst s = l ++ i :: r → Inv l w → Calls Tryz.prog f (#[I i] ++ cap) w (Ret fun u w' => ∃ c : Bool, u = B c ∧ (c = true → Inv (l ++ [i]) w') ∧ (c = false → Stop (l ++ [i]) w'))) (h0 : Inv [] w) : Calls Tryz.prog 96 #[U s, .func (.func f) #[] cap] w (Ret fun u w' => u = .tuple #[] ∧ (Inv (lst s) w' ∨ ∃ l i r, lst s = l ++ i :: r ∧ Stop (l ++ [i]) w')) := by
 refine enter Tryz.func96 rfl Tryz.ntmps96 rfl <| have hH := Hp.start w; CW.block <| CW.loop (G := (BitVec 64) × (List Int)) (fun ⟨s1, l⟩ s' w' => (Fr (0 :: (rg 4 11 [])) _ s') ∧ (Inv l w') ∧ (s' 0 = U s1) ∧ (lst s = l ++ lst s1)) (fun ⟨s1, l⟩ => (lst s1).length) ((s, [])) ⟨Fr.refl _ _, h0, rfl, (by simp)⟩ <| ?_
 rintro ⟨s1, l⟩ sg1 w1 ⟨fr1, hH1, e0_1, hl⟩
 have hI1 := hH1
 clear hH1
 have hH1 := Hp.start w1
 have e1_1 := fr1.vv 1 (a := .func _ _ _) rfl rfl
 refine CW.seq <| SR <| vm e0_1 <| V (run_neqU rfl (b := 0#64) rfl) <| RL.nil <| CW.condP rfl (fun h3 => ?_) (fun h3 => ?_)
 ·refine CW.skip <| CW.block <| CW.seq <| SR <| vm e1_1 <| vm e0_1 <| RL.callP rfl hH1 (c_bits_TrailingZeros64 _ _ (hT _ _ hI1)) (run_call1 call107 rfl) <| fun w4 hH5 => have hI := hm _ _ _ hI1 hH5.below; RL.call rfl (run_callV1 hf rfl (v1 := I (tz s1)) rfl) (go l (tz s1) (lst (s1 &&& (s1 - 1#64))) _ (by rw [hl, lst_tz ‹_›]) hI) <| ?_
  rintro u8 w6 ⟨c, rfl, hJ1, hJ2⟩
  have hH7 := Hp.start w6
  refine V (run_not rfl) <| RL.nil <| CW.cond rfl (fun h11 => ?_) (fun h11 => ?_)
  ·refine CW.ret <| out0 Tryz.results96 ⟨rfl, .inr ⟨l, tz s1, lst (s1 &&& (s1 - 1#64)), by rw [hl, lst_tz ‹_›], hJ2 (by simpa using ‹(!c) = true›)⟩⟩
  ·refine CW.skip <| CW.region <| vm e0_1 <| vm e0_1 <| V (run_subU rfl (b := 1#64) rfl) <| V (run_andU rfl rfl) <| aU rfl <| RL.nil <| ?_
   refine ⟨(s1 &&& (s1 - 1#64), l ++ [tz s1]), ?_, fr1.u4.u4.u4, (hJ1 (by simpa using ‹(!c) = false›)), rfl, ?_⟩
   ·exact lst_clear_lt ‹_›
   ·rw [hl, lst_tz ‹_›]; simp
 ·refine CW.exit (id := 0) rfl <| have hn : lst s1 = [] := lst_eq_nil.2 (by simpa using ‹¬ s1 ≠ 0#64›); out0 Tryz.results96 ⟨rfl, .inl (by rw [hl, hn, List.append_nil]; assumption)⟩
theorem c_mask_List_1 (W0 : World) (b : Nat) (v : Value) (l : List Int) (i : Int) (w : World) (hH : Hp W0 w [.row v 3 1 l.length (l.map I), .blk b (.cells #[v] 111 (0, 0))]) (hlen : l.length ≤ 64) : Calls Tryz.prog 97 #[I i, .pointer (some ⟨b, 0, none⟩)] w (Ret fun u w' => u = B true ∧ ∃ v', Hp W0 w' [.row v' 3 1 (l ++ [i]).length ((l ++ [i]).map I), .blk b (.cells #[v'] 111 (0, 0))]) := by
 refine enter Tryz.func97 rfl Tryz.ntmps97 rfl <| SR <| va (v := B false) rfl <| RL.nil <| SR <| V (run_ld underlying111 rfl rfl (hH.cell (i := 1) rfl rfl)) <| mI rfl <| RL.new rfl hH (f := fun b => (.slice (some ⟨b, 0, none⟩) 1 1)) (run_mkL underlying111 rfl rfl (sz := 1) (vs := [I _]) rfl rfl (by decide) (by decide) rfl rfl) <| fun b3 w1 hH2 => ?_
 (try simp only [clX] at hH2)
 refine RL.app rfl hH2 (i := 1) rfl (hH2.slBlk (i := 0) (n := 1) (sz := 1) rfl rfl (by decide)) rfl rfl underlying111 rfl rfl (size := 1) (bytes := 8) rfl rfl rfl (by decide) (by simp [Value.oneCell']) (by omega) (by simp only [maxLen]; omega) <| fun v4 w5 hH6 => ?_
 simp only [z2] at hH6
 refine RL.set hH6 (i := 2) rfl (run_st rfl rfl (by conv => lhs; whnf) (row_cells (hH6.get (i := 1) rfl)).1 (row_cells (hH6.get (i := 1) rfl)).2 (hH6.blk (i := 2) rfl) (by simp)) ?_
 intro w7 hH8
 simp only [z2] at hH8
 refine RL.nil <| SR <| va (v := B true) rfl <| RL.nil <| CW.ret <| out1 Tryz.results97 rfl ⟨rfl, (v4 : Value), Hp.conv hH8.tail (by simp)⟩
theorem c_mask_List (s : BitVec 64) (w : World) (hT : Tab w) : Calls Tryz.prog 83 #[U s] w (PureRow 3 1 (lst s).length ((lst s).map I) w) := by
 refine enter Tryz.func83 rfl Tryz.ntmps83 rfl <| have hH := Hp.start w; SR <| va (v := .slice none 0 0) rfl <| RL.nil <| SR <| RL.new rfl hH (f := fun b => (.pointer (some ⟨b, 0, none⟩))) (run_alloc Tryz.zeroValue111) <| fun b3 w1 hH2 => have hH4 := hH2.nilRow 3 1; RL.nil <| SR <| mU rfl <| ?_
 refine V (run_mkF1 (by conv => lhs; whnf)) ?_
 refine RL.call rfl (run_call2 call96 (v1 := U s) rfl (v2 := .func (.func 97) #[] #[.pointer (some ⟨b3, 0, none⟩)]) rfl) (c_mask_Each 97 _ (fun l w' => ∃ v, Hp w w' [.row v 3 1 l.length (l.map I), .blk b3 (.cells #[v] 111 (0, 0))]) (fun _ _ => False) s _ call97 (fun l w' w'' h hb => h.imp fun v h => h.call hb) (fun l w' h => h.elim fun v h => hT.hp h) (fun l i r w' he h => h.elim fun v h => by
   have hl64 : l.length ≤ 64 := by have := lst_len s; rw [he] at this; simp at this; omega
   have hc := c_mask_List_1 w b3 v l i w' h hl64
   refine Ret.calls hc <| fun u w2 hq => ⟨true, hq.1, fun _ => hq.2, fun h => by cases h⟩) ⟨.slice none 0 0, hH4⟩) ?_
 rintro u w5 ⟨rfl, hor⟩
 obtain ⟨v7, hH6⟩ := hor.resolve_right (fun ⟨_, _, _, _, h⟩ => h)
 refine RL.nil <| SR <| V (run_ld underlying111 rfl rfl (hH6.cell (i := 1) rfl rfl)) <| ?_
 refine V (run_assign (by conv => lhs; whnf)) ?_
 refine RL.nil <| CW.ret <| outR Tryz.results83 rfl hH6 (i := 0) rfl (rfl) (rfl)
theorem c_clearanceref01_Sub (a b : BitVec 64) (w : World) : Calls Tryz.prog 42 #[U a, U b] w (Pure (B (subB a b)) w) := by
 have hl := lst_len a
 refine enter Tryz.func42 rfl Tryz.ntmps42 rfl <| have hH := Hp.start w; SR <| va (v := B false) rfl <| RL.nil <| SR <| mU rfl <| RL.callR rfl hH (c_clearanceref01_List _  _) (run_call1 call54 rfl) <| fun v3 w1 hH2 => ?_
 refine V (run_assign (by conv => lhs; whnf)) ?_
 refine RL.nil <| CW.seq <| SR <| va (v := I 0) rfl <| RL.nil <| CW.block <| CW.loop (G := Int) (fun k s' w' => (Fr (4 :: (6 :: (rg 9 13 []))) _ s') ∧ (Hp w w' _) ∧ (s' 6 = I k) ∧ (0 ≤ k) ∧ (k ≤ (lst a).length) ∧ (∀ j : Int, 0 ≤ j → j < k → hasB b ((lst a).getD j.toNat 0) = true)) (fun k => ((lst a).length - k).toNat) (0) ⟨Fr.refl _ _, hH2, rfl, (by omega), (by omega), fun j a b => absurd b (by omega)⟩ <| ?_
 rintro k sg4 w4 ⟨fr4, hH4, e6_4, h0, hk, hf⟩
 have e1_4 := fr4.uu 1 rfl rfl
 have e5_4 := (fr4 5 rfl).trans (by conv => lhs; whnf)
 refine CW.seq <| SR <| vm e6_4 <| vm e5_4 <| V (run_lenSl (hH4.sl (i := 0) rfl) rfl underlying111 rfl) <| V (run_lss rfl rfl) <| RL.nil <| CW.condP rfl (fun h6 => ?_) (fun h6 => ?_)
 ·refine CW.skip <| CW.seq <| CW.block <| SR <| vm e1_4 <| vm e5_4 <| vm e6_4 <| V (run_indexAddrS (hH4.sl (i := 0) rfl) underlying111 sizeOf3 rfl rfl (by omega)) <| V (run_ld underlying3 rfl rfl ((hH4.sl (i := 0) rfl).cell _ _ (map_at (by omega)))) <| RL.callP rfl hH4 (c_clearanceref01_Has _ _  _) (run_call2 call55 rfl rfl) <| fun w7 hH8 => V (run_not rfl) <| RL.nil <| CW.cond rfl (fun h11 => ?_) (fun h11 => ?_)
  ·refine SR <| va (v := B false) rfl <| RL.nil <| CW.ret <| outP1 Tryz.results42 (congrArg B ?_) hH8.below
   (exact (subB_no h0 ‹_› ‹_›).symm)
  ·refine CW.skip <| CW.region <| vm e6_4 <| V (run_add rfl rfl (by omega)) <| aI rfl <| RL.nil <| ?_
   refine ⟨k + 1, ?_, fr4.u4.u4.u4.u1.u1, hH8, (congrArg I (by rfl)), ?_, ?_, ?_⟩
   ·((try dsimp only); omega)
   ·omega
   ·omega
   ·exact fun j x y => if e : j = k then e ▸ (by simpa using ‹(!hasB b ((lst a).getD k.toNat 0)) = false›) else hf j x (by omega)
 ·refine CW.exit (id := 0) rfl <| SR <| va (v := B true) rfl <| RL.nil <| CW.ret <| outP1 Tryz.results42 (congrArg B ?_) hH4.below
  (exact (subB_yes fun j x y => hf j x (by omega)).symm)
theorem c_clearanceref03_Points (r : Rl) (w : World) : Calls Tryz.prog 64 #[.agg (relC r)] w (Pure (I (pts r)) w) := by
 refine enter Tryz.func64 rfl Tryz.ntmps64 rfl <| have hH := Hp.start w; SR <| RL.new rfl hH (f := fun b => (.pointer (some ⟨b, 0, none⟩))) (run_box (v := .agg _) rfl) <| fun b3 w1 hH2 => va (v := I 0) rfl <| RL.nil <| CW.seq <| SR <| V (fA underlying59 0 rfl sizeOf3 rfl) <| V (run_ld underlying3 rfl rfl (hH2.cell (i := 0) rfl (relC_N _))) <| V (run_lss rfl rfl) <| RL.nil <| CW.condP rfl (fun h5 => ?_) (fun h5 => ?_)
 ·refine SR <| va (v := I 0) rfl <| RL.nil <| CW.ret <| outP1 Tryz.results64 (congrArg I ?_) hH2.below
  (unfold pts; omega)
 ·refine CW.skip <| CW.seq <| SR <| V (fA underlying59 0 rfl sizeOf3 rfl) <| V (run_ld underlying3 rfl rfl (hH2.cell (i := 0) rfl (relC_N _))) <| V (run_gtr rfl rfl) <| RL.nil <| CW.condP rfl (fun h7 => ?_) (fun h7 => ?_)
  ·refine SR <| va (v := I 64) rfl <| RL.nil <| CW.ret <| outP1 Tryz.results64 (congrArg I ?_) hH2.below
   (unfold pts; omega)
  ·refine CW.skip <| SR <| V (fA underlying59 0 rfl sizeOf3 rfl) <| V (run_ld underlying3 rfl rfl (hH2.cell (i := 0) rfl (relC_N _))) <| aI rfl <| RL.nil <| CW.ret <| outP1 Tryz.results64 (congrArg I ?_) hH2.below
   (unfold pts; omega)
theorem c_relate_points (r : Rl) (w : World) : Calls Tryz.prog 85 #[.agg (relC r)] w (Pure (I (pts r)) w) := by
 refine enter Tryz.func85 rfl Tryz.ntmps85 rfl <| have hH := Hp.start w; SR <| RL.new rfl hH (f := fun b => (.pointer (some ⟨b, 0, none⟩))) (run_box (v := .agg _) rfl) <| fun b3 w1 hH2 => va (v := I 0) rfl <| RL.nil <| SR <| V (fA underlying59 0 rfl sizeOf3 rfl) <| V (run_ld underlying3 rfl rfl (hH2.cell (i := 0) rfl (relC_N _))) <| V (run_minI rfl rfl) <| V (run_maxI rfl rfl) <| aI rfl <| RL.nil <| CW.ret <| outP1 Tryz.results85 (congrArg I ?_) hH2.below
 rfl
theorem c_clearanceref03_Has (r : Rl) (i j : Int) (w : World) : Calls Tryz.prog 65 #[.agg (relC r), I i, I j] w (Pure (B (hasR r i j)) w) := by
 have hp := pts_bd r
 refine enter Tryz.func65 rfl Tryz.ntmps65 rfl <| have hH := Hp.start w; SR <| RL.new rfl hH (f := fun b => (.pointer (some ⟨b, 0, none⟩))) (run_box (v := .agg _) rfl) <| fun b3 w1 hH2 => va (v := B false) rfl <| RL.nil <| SR <| V (run_ldRel underlying59 rfl rfl rfl (hH2.blk (i := 0) rfl)) <| RL.callP rfl hH2 (c_clearanceref03_Points _  _) (run_call1 call64 rfl) <| fun w4 hH5 => aI rfl <| RL.nil <| SR <| mI rfl <| V (run_geq rfl rfl) <| mB rfl <| RL.splitP (dj := 12) rfl (fun h7 => ?_) (fun h7 => ?_)
 ·refine gT rfl (bT h7) <| mI rfl <| gT rfl (bT h7) <| V (run_geq rfl rfl) <| V (run_pickT (bT h7) (v := B _) rfl) <| mB rfl <| RL.splitP (dj := 16) rfl (fun h9 => ?_) (fun h9 => ?_)
  ·refine gT rfl (bT h9) <| mI rfl <| gT rfl (bT h9) <| mI rfl <| gT rfl (bT h9) <| V (run_lss rfl rfl) <| V (run_pickT (bT h9) (v := B _) rfl) <| mB rfl <| RL.splitP (dj := 21) rfl (fun h11 => ?_) (fun h11 => ?_)
   ·refine gT rfl (bT h11) <| mI rfl <| gT rfl (bT h11) <| mI rfl <| gT rfl (bT h11) <| V (run_lss rfl rfl) <| V (run_pickT (bT h11) (v := B _) rfl) <| mB rfl <| RL.splitP (dj := 26) rfl (fun h13 => ?_) (fun h13 => ?_)
    ·refine gT rfl (bT h13) <| mI rfl <| gT rfl (bT h13) <| V (fA underlying59 1 rfl sizeOf57 rfl) <| gT rfl (bT h13) <| V (run_indexAddrA underlying57 sizeOf38 rfl rfl (by omega)) <| gT rfl (bT h13) <| V (run_ld underlying38 rfl rfl (hH5.cell (i := 0) rfl (relC_up _ (by omega)))) <| gT rfl (bT h13) <| mI rfl <| gT rfl (bT h13) <| V (run_convIU underlying3 underlying127 rfl) <| gT rfl (bT h13) <| V (run_shrU rfl rfl) <| gT rfl (bT h13) <| V (run_remU rfl (b := 2#64) rfl (by decide)) <| gT rfl (bT h13) <| V (run_eqlU rfl (b := 1#64) rfl) <| V (run_pickT (bT h13) (v := B _) rfl) <| aB rfl <| RL.nil <| CW.ret <| outP1 Tryz.results65 (congrArg B ?_) hH5.below
     exact has_ref (by omega) (by omega) (by omega) (by omega)
    ·refine gF rfl (bF h13) <| gF rfl (bF h13) <| gF rfl (bF h13) <| gF rfl (bF h13) <| gF rfl (bF h13) <| gF rfl (bF h13) <| gF rfl (bF h13) <| gF rfl (bF h13) <| gF rfl (bF h13) <| V (run_pickF (bF h13) (v := B false) rfl) <| aB rfl <| RL.nil <| CW.ret <| outP1 Tryz.results65 (congrArg B ?_) hH5.below
     exact (has_out (by omega)).symm
   ·refine gF rfl (bF h11) <| gF rfl (bF h11) <| gF rfl (bF h11) <| V (run_pickF (bF h11) (v := B false) rfl) <| mB rfl <| gF rfl rfl <| gF rfl rfl <| gF rfl rfl <| gF rfl rfl <| gF rfl rfl <| gF rfl rfl <| gF rfl rfl <| gF rfl rfl <| gF rfl rfl <| V (run_pickF rfl (v := B false) rfl) <| aB rfl <| RL.nil <| CW.ret <| outP1 Tryz.results65 (congrArg B ?_) hH5.below
    exact (has_out (by omega)).symm
  ·refine gF rfl (bF h9) <| gF rfl (bF h9) <| gF rfl (bF h9) <| V (run_pickF (bF h9) (v := B false) rfl) <| mB rfl <| gF rfl rfl <| gF rfl rfl <| gF rfl rfl <| V (run_pickF rfl (v := B false) rfl) <| mB rfl <| gF rfl rfl <| gF rfl rfl <| gF rfl rfl <| gF rfl rfl <| gF rfl rfl <| gF rfl rfl <| gF rfl rfl <| gF rfl rfl <| gF rfl rfl <| V (run_pickF rfl (v := B false) rfl) <| aB rfl <| RL.nil <| CW.ret <| outP1 Tryz.results65 (congrArg B ?_) hH5.below
   exact (has_out (by omega)).symm
 ·refine gF rfl (bF h7) <| gF rfl (bF h7) <| V (run_pickF (bF h7) (v := B false) rfl) <| mB rfl <| gF rfl rfl <| gF rfl rfl <| gF rfl rfl <| V (run_pickF rfl (v := B false) rfl) <| mB rfl <| gF rfl rfl <| gF rfl rfl <| gF rfl rfl <| V (run_pickF rfl (v := B false) rfl) <| mB rfl <| gF rfl rfl <| gF rfl rfl <| gF rfl rfl <| gF rfl rfl <| gF rfl rfl <| gF rfl rfl <| gF rfl rfl <| gF rfl rfl <| gF rfl rfl <| V (run_pickF rfl (v := B false) rfl) <| aB rfl <| RL.nil <| CW.ret <| outP1 Tryz.results65 (congrArg B ?_) hH5.below
  exact (has_out (by omega)).symm
theorem c_relate_row (r : Rl) (i : Int) (hi : 0 ≤ i ∧ i < 64) (w : World) : Calls Tryz.prog 94 #[.agg (relC r), I i] w (Pure (U (rowR r i)) w) := by
 refine enter Tryz.func94 rfl Tryz.ntmps94 rfl <| have hH := Hp.start w; SR <| RL.new rfl hH (f := fun b => (.pointer (some ⟨b, 0, none⟩))) (run_box (v := .agg _) rfl) <| fun b3 w1 hH2 => va (v := U 0#64) rfl <| RL.nil <| CW.seq <| CW.regionD (by kernel_rfl) hH2 <| fun w4 hH5 => have zh5 := hH5.sub sR; AQ 0 rfl zh5 (mV (I _) rfl) <| AQ 1 rfl zh5 (fA underlying59 1 rfl sizeOf57 rfl) <| AQ 2 rfl zh5 (run_indexAddrA underlying57 sizeOf38 rfl rfl (by omega)) <| AT 3 rfl zh5 (fun w hS => run_ld underlying38 rfl rfl (hS.cell (i := 0) rfl (relC_up _ (by omega)))) <| AT 4 rfl zh5 (fun w hS => run_ldRel underlying59 rfl rfl rfl (hS.blk (i := 0) rfl)) <| A1 5 <| AO.callP rfl gnone rfl hH5 sR (c_relate_points _  _) (run_call1 call85 rfl) <| fun w6 hH7 => A1 6 <| AO.callP rfl gnone rfl hH7 sR (c_mask_Below _  _) (run_call1 call98 rfl) <| fun w8 hH9 => AQ 7 rfl (hH9.sub sR) (run_andU rfl rfl) <| AQ 8 rfl (hH9.sub sR) (aV (U _) rfl) <| AD <| CW.ret <| outP1 Tryz.results94 (congrArg U ?_) hH9.below
 rfl
theorem c_relate_Up (r : Rl) (s : BitVec 64) (w : World) (hT : Tab w) : Calls Tryz.prog 84 #[.agg (relC r), U s] w (Pure (U (upR r s)) w) := by
 have hp := pts_bd r
 refine enter Tryz.func84 rfl Tryz.ntmps84 rfl <| have hH := Hp.start w; SR <| RL.new rfl hH (f := fun b => (.pointer (some ⟨b, 0, none⟩))) (run_box (v := .agg _) rfl) <| fun b3 w1 hH2 => va (v := U 0#64) rfl <| RL.nil <| SR <| va (v := U 0#64) rfl <| RL.nil <| CW.seq <| SR <| mU rfl <| V (run_ldRel underlying59 rfl rfl rfl (hH2.blk (i := 0) rfl)) <| RL.callP rfl hH2 (c_relate_points _  _) (run_call1 call85 rfl) <| fun w4 hH5 => RL.callP rfl hH5 (c_mask_Below _  _) (run_call1 call98 rfl) <| fun w6 hH7 => V (run_andU rfl rfl) <| RL.callR rfl hH7 (c_mask_List _  _ (hT.hp hH7)) (run_call1 call83 rfl) <| fun v10 w8 hH9 => V (run_lenSl (hH9.sl (i := 0) rfl) rfl underlying111 rfl) <| vm (v := I 0) rfl <| RL.nil <| CW.block <| have hl := lst_len (s &&& below (pts r)); CW.loop (G := Int) (fun k s' w' => (Fr (5 :: (7 :: (rg 15 10 []))) _ s') ∧ (Hp w w' _) ∧ (s' 5 = U (orAll (rowR r) ((lst (s &&& below (pts r))).take k.toNat))) ∧ (s' 15 = I k) ∧ (0 ≤ k) ∧ (k ≤ (lst (s &&& below (pts r))).length)) (fun k => ((lst (s &&& below (pts r))).length - k).toNat) (0) ⟨Fr.refl _ _, hH9, (congrArg U (by simp [orAll])), rfl, (by omega), (by omega)⟩ <| ?_
 rintro k sg11 w11 ⟨fr11, hH11, e5_11, e15_11, h0, hk⟩
 have e2_11 := fr11.pp 2 rfl rfl
 have e13_11 := (fr11 13 rfl).trans (by conv => lhs; whnf)
 have e14_11 := fr11.ii 14 rfl rfl
 refine SR <| V (run_lss e15_11 e14_11) <| RL.nil <| CW.seq <| CW.condP rfl (fun h13 => ?_) (fun h13 => ?_)
 ·refine CW.skip <| CW.seq <| CW.block <| SR <| V (run_indexAddrS (hH11.sl (i := 0) rfl) underlying111 sizeOf3 e13_11 e15_11 (by omega)) <| V (run_ld underlying3 rfl rfl ((hH11.sl (i := 0) rfl).cell _ _ (map_at (by omega)))) <| aI rfl <| RL.nil <| CW.region <| vm e5_11 <| V (run_ldRel underlying59 rfl rfl e2_11 (hH11.blk (i := 1) rfl)) <| mI rfl <| RL.callP rfl hH11 (c_relate_row _ _ (by exact lst_at_bd (by assumption) (by assumption)) _) (run_call2 call94 rfl rfl) <| fun w14 hH15 => V (run_orU rfl rfl) <| aU rfl <| RL.nil <| CW.region <| V (run_add e15_11 rfl (by omega)) <| mI rfl <| RL.nil <| ?_
  refine ⟨k + 1, ?_, fr11.u4.u4.u4, hH15, (congrArg U (orAll_next h0 ‹_›)), (congrArg I (by rfl)), ?_, ?_⟩
  ·((try dsimp only); omega)
  ·omega
  ·omega
 ·refine CW.exit (id := 0) rfl <| SR <| vm e5_11 <| aU rfl <| RL.nil <| CW.ret <| outP1 Tryz.results84 (congrArg U ?_) hH11.below
  (rw [take_all ‹_›]; rfl)
theorem c_relate_Down (r : Rl) (s : BitVec 64) (w : World) : Calls Tryz.prog 81 #[.agg (relC r), U s] w (Pure (U (downR r s)) w) := by
 have hp := pts_bd r
 refine enter Tryz.func81 rfl Tryz.ntmps81 rfl <| have hH := Hp.start w; SR <| RL.new rfl hH (f := fun b => (.pointer (some ⟨b, 0, none⟩))) (run_box (v := .agg _) rfl) <| fun b3 w1 hH2 => va (v := U 0#64) rfl <| RL.nil <| SR <| va (v := U 0#64) rfl <| RL.nil <| CW.seq <| SR <| V (run_ldRel underlying59 rfl rfl rfl (hH2.blk (i := 0) rfl)) <| RL.callP rfl hH2 (c_relate_points _  _) (run_call1 call85 rfl) <| fun w4 hH5 => vm (v := I 0) rfl <| RL.nil <| CW.block <| CW.loop (G := Int) (fun k s' w' => (Fr (5 :: 6 :: (rg 9 13 [])) _ s') ∧ (Hp w w' _) ∧ (s' 5 = U (downTo r s k)) ∧ (s' 9 = I k) ∧ (0 ≤ k) ∧ (k ≤ pts r)) (fun k => (pts r - k).toNat) (0) ⟨Fr.refl _ _, hH5, (congrArg U (by simp [downTo, bitsTo])), rfl, (by omega), (by omega)⟩ <| ?_
 rintro k sg6 w6 ⟨fr6, hH6, e5_6, e9_6, h0, hk⟩
 have e1_6 := fr6.uu 1 rfl rfl
 have e2_6 := fr6.pp 2 rfl rfl
 have e8_6 := fr6.ii 8 rfl rfl
 refine SR <| V (run_lss e9_6 e8_6) <| RL.nil <| CW.seq <| CW.condP rfl (fun h8 => ?_) (fun h8 => ?_)
 ·refine CW.skip <| CW.seq <| CW.block <| SR <| vm e9_6 <| aI rfl <| RL.nil <| SR <| V (run_ldRel underlying59 rfl rfl e2_6 (hH6.blk (i := 0) rfl)) <| mI rfl <| RL.callP rfl hH6 (c_relate_row _ _ (by omega) _) (run_call2 call94 rfl rfl) <| fun w9 hH10 => vm e1_6 <| V (run_andU rfl rfl) <| V (run_neqU rfl (b := 0#64) rfl) <| RL.nil <| CW.condP rfl (fun h12 => ?_) (fun h12 => ?_)
  ·refine CW.region <| vm e5_6 <| mI rfl <| RL.callP rfl hH10 (c_mask_With _ _  _) (run_call2 call95 rfl rfl) <| fun w13 hH14 => aU rfl <| RL.nil <| CW.region <| V (run_add e9_6 rfl (by omega)) <| mI rfl <| RL.nil <| ?_
   refine ⟨k + 1, ?_, fr6.u4.u4.u4.u1.u1.u1, hH14, (congrArg U (by exact down_yes h0 (by omega) ‹_›)), (congrArg I (by rfl)), ?_, ?_⟩
   ·((try dsimp only); omega)
   ·omega
   ·omega
  ·refine CW.skip <| CW.region <| V (run_add e9_6 rfl (by omega)) <| mI rfl <| RL.nil <| ?_
   refine ⟨k + 1, ?_, fr6.u4.u4.u1.u1.u1, hH10, (Eq.trans e5_6 (congrArg U (by exact down_not h0 ‹_›))), (congrArg I (by rfl)), ?_, ?_⟩
   ·((try dsimp only); omega)
   ·omega
   ·omega
 ·refine CW.exit (id := 0) rfl <| SR <| vm e5_6 <| aU rfl <| RL.nil <| CW.ret <| outP1 Tryz.results81 (congrArg U ?_) hH6.below
  (rw [show k = pts r by omega]; rfl)
theorem c_relate_New (n : Int) (w : World) : Calls Tryz.prog 75 #[I n] w (Pure (.agg (relC (newR n))) w) := by
 refine enter Tryz.func75 rfl Tryz.ntmps75 rfl <| have hH := Hp.start w; SR <| RL.new rfl hH (f := fun b => (.pointer (some ⟨b, 0, none⟩))) (run_alloc zero_rel) <| fun b3 w1 hH2 => RL.nil <| SR <| mI rfl <| V (run_bld (vs := [(0, I _)]) rfl (built_rel _)) <| RL.callP rfl hH2 (c_relate_points _  _) (run_call1 call85 rfl) <| fun w4 hH5 => V (run_bld (vs := [(0, I _)]) rfl (built_rel _)) <| RL.set hH5 (i := 0) rfl (run_stRel rfl rfl rfl (hH5.blk (i := 0) rfl)) <| fun w6 hH7 => ?_
 simp only [z2] at hH7
 refine RL.nil <| CW.ret <| outC Tryz.results75 rfl hH7 (i := 0) rfl underlying59 rfl rfl ⟨?_, hH7.below⟩
 rfl
theorem c_hasse_in (r : Rl) (i : Int) (w : World) : Calls Tryz.prog 80 #[.agg (relC r), I i] w (Pure (B (isP r i)) w) := by
 have hp := pts_bd r
 have hnn : (newR r.n).n = pts r := rfl
 refine enter Tryz.func80 rfl Tryz.ntmps80 rfl <| have hH := Hp.start w; SR <| RL.new rfl hH (f := fun b => (.pointer (some ⟨b, 0, none⟩))) (run_box (v := .agg _) rfl) <| fun b3 w1 hH2 => va (v := B false) rfl <| RL.nil <| SR <| mI rfl <| V (run_geq rfl rfl) <| mB rfl <| RL.splitP (dj := 7) rfl (fun h5 => ?_) (fun h5 => ?_)
 ·refine gT rfl (bT h5) <| mI rfl <| gT rfl (bT h5) <| V (fA underlying59 0 rfl sizeOf3 rfl) <| gT rfl (bT h5) <| V (run_ld underlying3 rfl rfl (hH2.cell (i := 0) rfl (relC_N _))) <| gT rfl (bT h5) <| RL.callP rfl hH2 (c_relate_New _  _) (run_call1 call75 rfl) <| fun w6 hH7 => gT rfl (bT h5) <| V (run_field underlying59 rfl isAgg3 rfl (relC_N _)) <| gT rfl (bT h5) <| V (run_lss rfl rfl) <| V (run_pickT (bT h5) (v := B _) rfl) <| aB rfl <| RL.nil <| CW.ret <| outP1 Tryz.results80 (congrArg B ?_) hH7.below
  (rw [isP, Bool.eq_iff_iff]; simp only [decide_eq_true_eq, Bool.false_eq_true, false_iff]; omega)
 ·refine gF rfl (bF h5) <| gF rfl (bF h5) <| gF rfl (bF h5) <| gF rfl (bF h5) <| gF rfl (bF h5) <| gF rfl (bF h5) <| V (run_pickF (bF h5) (v := B false) rfl) <| aB rfl <| RL.nil <| CW.ret <| outP1 Tryz.results80 (congrArg B ?_) hH2.below
  (rw [isP, Bool.eq_iff_iff]; simp only [decide_eq_true_eq, Bool.false_eq_true, false_iff]; omega)
theorem c_hasse_above (r : Rl) (i : Int) (w : World) (hT : Tab w) : Calls Tryz.prog 74 #[.agg (relC r), I i] w (Pure (U (aboveR r i)) w) := by
 refine enter Tryz.func74 rfl Tryz.ntmps74 rfl <| have hH := Hp.start w; SR <| RL.new rfl hH (f := fun b => (.pointer (some ⟨b, 0, none⟩))) (run_box (v := .agg _) rfl) <| fun b3 w1 hH2 => va (v := U 0#64) rfl <| RL.nil <| CW.seq <| CW.regionD (by kernel_rfl) hH2 <| fun w4 hH5 => AT 0 rfl (hH5.sub sR) (fun w hS => run_ldRel underlying59 rfl rfl rfl (hS.blk (i := 0) rfl)) <| AQ 1 rfl (hH5.sub sR) (mV (I _) rfl) <| A1 2 <| AO.new rfl gnone rfl hH5 sR (f := fun b => .slice (some ⟨b, 0, none⟩) 1 1) (run_mkL underlying111 rfl rfl (sz := 1) (vs := [I _]) rfl rfl (by decide) (by decide) rfl rfl) <| fun b8 w6 hH7 => ?_
 (try simp only [clX] at hH7)
 refine A1 3 <| AO.callP rfl gnone rfl hH7 (sQ sR) (c_mask_Of _ [i] _ (hH7.slBlk (i := 0) (n := 1) (sz := 1) rfl rfl (by decide))) (run_call1 call82 rfl) <| fun w9 hH10 => A1 4 <| AO.callP rfl gnone rfl hH10 (sQ sR) (c_relate_Up _ _  _ (hT.hp hH10)) (run_call2 call84 rfl rfl) <| fun w11 hH12 => AQ 5 rfl (hH12.sub (sQ sR)) (aV (U _) rfl) <| AD <| CW.ret <| outP1 Tryz.results74 (congrArg U ?_) hH12.below
 rfl
theorem c_hasse_below (r : Rl) (i : Int) (w : World) (hT : Tab w) : Calls Tryz.prog 72 #[.agg (relC r), I i] w (Pure (U (belowR r i)) w) := by
 refine enter Tryz.func72 rfl Tryz.ntmps72 rfl <| have hH := Hp.start w; SR <| RL.new rfl hH (f := fun b => (.pointer (some ⟨b, 0, none⟩))) (run_box (v := .agg _) rfl) <| fun b3 w1 hH2 => va (v := U 0#64) rfl <| RL.nil <| CW.seq <| SR <| V (run_ldRel underlying59 rfl rfl rfl (hH2.blk (i := 0) rfl)) <| mI rfl <| RL.callP rfl hH2 (c_hasse_in _ _  _) (run_call2 call80 rfl rfl) <| fun w4 hH5 => V (run_not rfl) <| RL.nil <| CW.cond rfl (fun h8 => ?_) (fun h8 => ?_)
 ·refine SR <| va (v := U 0#64) rfl <| RL.nil <| CW.ret <| outP1 Tryz.results72 (congrArg U ?_) hH5.below
  rw [belowR, if_neg (by simpa using ‹(!isP r i) = true›)]
 ·refine CW.skip <| CW.seq <| CW.regionD (by kernel_rfl) hH5 <| fun w9 hH10 => AT 0 rfl (hH10.sub sR) (fun w hS => run_ldRel underlying59 rfl rfl rfl (hS.blk (i := 0) rfl)) <| AQ 1 rfl (hH10.sub sR) (mV (I _) rfl) <| A1 2 <| AO.new rfl gnone rfl hH10 sR (f := fun b => .slice (some ⟨b, 0, none⟩) 1 1) (run_mkL underlying111 rfl rfl (sz := 1) (vs := [I _]) rfl rfl (by decide) (by decide) rfl rfl) <| fun b13 w11 hH12 => ?_
  (try simp only [clX] at hH12)
  refine A1 3 <| AO.callP rfl gnone rfl hH12 (sQ sR) (c_mask_Of _ [i] _ (hH12.slBlk (i := 0) (n := 1) (sz := 1) rfl rfl (by decide))) (run_call1 call82 rfl) <| fun w14 hH15 => A1 4 <| AO.callP rfl gnone rfl hH15 (sQ sR) (c_relate_Down _ _  _) (run_call2 call81 rfl rfl) <| fun w16 hH17 => AQ 5 rfl (hH17.sub (sQ sR)) (aV (U _) rfl) <| AD <| CW.ret <| outP1 Tryz.results72 (congrArg U ?_) hH17.below
  rw [belowR, if_pos (by simpa using ‹(!isP r i) = false›)]
theorem c_hasse_nearest (r : Rl) (i j : Int) (f : FuncId) (gg : Int → BitVec 64) (w : World) (hf : ∀ args w, (callFunc f args).run Tryz.prog w = .ok (.enter f args) w) (go : ∀ i w, Tab w → Calls Tryz.prog f #[.agg (relC r), I i] w (Pure (U (gg i)) w)) (hn : ∀ u, hasB (gg i &&& gg j) u = true → u < pts r) (hT : Tab w) : Calls Tryz.prog 73 #[.agg (relC r), I i, I j, .func (.func f) #[] #[]] w (Pure (.tuple #[I (nearV gg (pts r) i j).1, B (nearV gg (pts r) i j).2]) w) := by
 have hl := lst_len (gg i &&& gg j)
 refine enter Tryz.func73 rfl Tryz.ntmps73 rfl <| have hH := Hp.start w; SR <| RL.new rfl hH (f := fun b => (.pointer (some ⟨b, 0, none⟩))) (run_box (v := .agg _) rfl) <| fun b3 w1 hH2 => va (v := I 0) rfl <| va (v := B false) rfl <| RL.nil <| CW.seq <| CW.regionD (by kernel_rfl) hH2 <| fun w4 hH5 => have zh5 := hH5.sub sR; AQ 0 rfl zh5 (mV (.func _ _ _) rfl) <| AT 1 rfl zh5 (fun w hS => run_ldRel underlying59 rfl rfl rfl (hS.blk (i := 0) rfl)) <| AQ 2 rfl zh5 (mV (I _) rfl) <| AQ 4 rfl zh5 (mV (.func _ _ _) rfl) <| AT 5 rfl zh5 (fun w hS => run_ldRel underlying59 rfl rfl rfl (hS.blk (i := 0) rfl)) <| AQ 6 rfl zh5 (mV (I _) rfl) <| A1 3 <| AO.callP rfl gnone rfl hH5 sR (go _ _ (hT.hp hH5)) (run_callC2 hf (cs := []) rfl rfl rfl) <| fun w6 hH7 => A1 7 <| AO.callP rfl gnone rfl hH7 sR (go _ _ (hT.hp hH7)) (run_callC2 hf (cs := []) rfl rfl rfl) <| fun w8 hH9 => AQ 8 rfl (hH9.sub sR) (run_andU rfl rfl) <| AQ 9 rfl (hH9.sub sR) (aV (U _) rfl) <| AD <| CW.seq <| SR <| mU rfl <| RL.callR rfl hH9 (c_mask_List _  _ (hT.hp hH9)) (run_call1 call83 rfl) <| fun v12 w10 hH11 => V (run_lenSl (hH11.sl (i := 0) rfl) rfl underlying111 rfl) <| vm (v := I 0) rfl <| RL.nil <| CW.block <| CW.loop (G := Int) (fun a s' w' => (Fr (8 :: 9 :: (12 :: (rg 25 12 []))) _ s') ∧ (Hp w w' _) ∧ (s' 25 = I a) ∧ (0 ≤ a) ∧ (a ≤ (lst (gg i &&& gg j)).length) ∧ (∀ b : Int, 0 ≤ b → b < a → subB (gg i &&& gg j) (gg ((lst (gg i &&& gg j)).getD b.toNat 0)) = false)) (fun a => ((lst (gg i &&& gg j)).length - a).toNat) (0) ⟨Fr.refl _ _, hH11, rfl, (by omega), (by omega), fun b x y => absurd y (by omega)⟩ <| ?_
 rintro a sg13 w13 ⟨fr13, hH13, e25_13, a0, a1, hg⟩
 have e3_13 := fr13.vv 3 (a := .func _ _ _) rfl rfl
 have e4_13 := fr13.pp 4 rfl rfl
 have e10_13 := fr13.uu 10 rfl rfl
 have e23_13 := (fr13 23 rfl).trans (by conv => lhs; whnf)
 have e24_13 := fr13.ii 24 rfl rfl
 refine SR <| V (run_lss e25_13 e24_13) <| RL.nil <| CW.seq <| CW.condP rfl (fun h15 => ?_) (fun h15 => ?_)
 ·refine CW.skip <| CW.seq <| CW.block <| SR <| V (run_indexAddrS (hH13.sl (i := 0) rfl) underlying111 sizeOf3 e23_13 e25_13 (by omega)) <| V (run_ld underlying3 rfl rfl ((hH13.sl (i := 0) rfl).cell _ _ (map_at (by omega)))) <| aI rfl <| RL.nil <| SR <| vm e10_13 <| vm e3_13 <| V (run_ldRel underlying59 rfl rfl e4_13 (hH13.blk (i := 1) rfl)) <| mI rfl <| RL.callP rfl hH13 (go _ _ (hT.hp hH13)) (run_callC2 hf (cs := []) rfl rfl rfl) <| fun w16 hH17 => RL.callP rfl hH17 (c_mask_Sub _ _  _) (run_call2 call39 rfl rfl) <| fun w18 hH19 => RL.nil <| CW.cond rfl (fun h21 => ?_) (fun h21 => ?_)
  ·refine SR <| mI rfl <| aI rfl <| va (v := B true) rfl <| RL.nil <| CW.ret <| ?_
   refine outP2 Tryz.results73 (congrArg I ?_) (congrArg B ?_) hH19.below <;> rw [near_yes hn a0 ‹_› ‹_› hg]
  ·refine CW.skip <| CW.region <| V (run_add e25_13 rfl (by omega)) <| mI rfl <| RL.nil <| ?_
   refine ⟨a + 1, ?_, fr13.u4.u4.u4, hH19, (congrArg I (by rfl)), ?_, ?_, ?_⟩
   ·((try dsimp only); omega)
   ·omega
   ·omega
   ·exact fun b x y => if e : b = a then e ▸ ‹_› else hg b x (by omega)
 ·refine CW.exit (id := 0) rfl <| SR <| va (v := I 0) rfl <| va (v := B false) rfl <| RL.nil <| CW.ret <| ?_
  refine outP2 Tryz.results73 (congrArg I ?_) (congrArg B ?_) hH13.below <;> rw [near_no ‹_› hg]
theorem c_hasse_Join (r : Rl) (i j : Int) (w : World) (hT : Tab w) : Calls Tryz.prog 63 #[.agg (relC r), I i, I j] w (Pure (.tuple #[I (joinV r i j).1, B (joinV r i j).2]) w) := by
 refine enter Tryz.func63 rfl Tryz.ntmps63 rfl <| have hH := Hp.start w; SR <| RL.new rfl hH (f := fun b => (.pointer (some ⟨b, 0, none⟩))) (run_box (v := .agg _) rfl) <| fun b3 w1 hH2 => va (v := I 0) rfl <| va (v := B false) rfl <| RL.nil <| SR <| V (run_ldRel underlying59 rfl rfl rfl (hH2.blk (i := 0) rfl)) <| mI rfl <| mI rfl <| RL.callP rfl hH2 (c_hasse_nearest r i j 74 (aboveR r) _ call74 (fun i w h => c_hasse_above r i w h) (fun u h => above_in h) (hT.hp hH2)) (run_call4 call73 rfl rfl rfl rfl) <| fun w4 hH5 => V (run_extract rfl (v := I _) rfl) <| V (run_extract rfl (v := B _) rfl) <| aI rfl <| aB rfl <| RL.nil <| CW.ret <| outP2 Tryz.results63 (congrArg I ?_) (congrArg B ?_) hH5.below
 all_goals rfl
theorem c_hasse_Word (r : Rl) (i : Int) (w : World) (hT : Tab w) : Calls Tryz.prog 62 #[.agg (relC r), I i] w (Pure (U (belowR r i)) w) := by
 refine enter Tryz.func62 rfl Tryz.ntmps62 rfl <| have hH := Hp.start w; SR <| RL.new rfl hH (f := fun b => (.pointer (some ⟨b, 0, none⟩))) (run_box (v := .agg _) rfl) <| fun b3 w1 hH2 => va (v := U 0#64) rfl <| RL.nil <| SR <| V (run_ldRel underlying59 rfl rfl rfl (hH2.blk (i := 0) rfl)) <| mI rfl <| RL.callP rfl hH2 (c_hasse_below _ _  _ (hT.hp hH2)) (run_call2 call72 rfl rfl) <| fun w4 hH5 => aU rfl <| RL.nil <| CW.ret <| outP1 Tryz.results62 (congrArg U ?_) hH5.below
 rfl
theorem c_hasse_Point (r : Rl) (s : BitVec 64) (w : World) (hT : Tab w) : Calls Tryz.prog 67 #[.agg (relC r), U s] w (Pure (.tuple #[I (pointV r s).1, B (pointV r s).2]) w) := by
 have hp := pts_bd r
 have hnn : (newR r.n).n = pts r := rfl
 refine enter Tryz.func67 rfl Tryz.ntmps67 rfl <| have hH := Hp.start w; SR <| RL.new rfl hH (f := fun b => (.pointer (some ⟨b, 0, none⟩))) (run_box (v := .agg _) rfl) <| fun b3 w1 hH2 => va (v := I 0) rfl <| va (v := B false) rfl <| RL.nil <| CW.seq <| SR <| V (fA underlying59 0 rfl sizeOf3 rfl) <| V (run_ld underlying3 rfl rfl (hH2.cell (i := 0) rfl (relC_N _))) <| RL.callP rfl hH2 (c_relate_New _  _) (run_call1 call75 rfl) <| fun w4 hH5 => V (run_field underlying59 rfl isAgg3 rfl (relC_N _)) <| vm (v := I 0) rfl <| RL.nil <| CW.block <| CW.loop (G := Int) (fun k s' w' => (Fr (rg 4 3 (rg 11 10 [])) _ s') ∧ (Hp w w' _) ∧ (s' 11 = I k) ∧ (0 ≤ k) ∧ (k ≤ pts r) ∧ (∀ j : Int, 0 ≤ j → j < k → belowR r j ≠ s)) (fun k => (pts r - k).toNat) (0) ⟨Fr.refl _ _, hH5, rfl, (by omega), (by omega), fun j x y => absurd y (by omega)⟩ <| ?_
 rintro k sg6 w6 ⟨fr6, hH6, e11_6, h0, hk, hg⟩
 have e1_6 := fr6.uu 1 rfl rfl
 have e2_6 := fr6.pp 2 rfl rfl
 have e10_6 := fr6.ii 10 rfl rfl
 refine SR <| V (run_lss e11_6 e10_6) <| RL.nil <| CW.seq <| CW.condP rfl (fun h8 => ?_) (fun h8 => ?_)
 ·refine CW.skip <| CW.seq <| CW.block <| SR <| vm e11_6 <| aI rfl <| RL.nil <| SR <| V (run_ldRel underlying59 rfl rfl e2_6 (hH6.blk (i := 0) rfl)) <| mI rfl <| RL.callP rfl hH6 (c_hasse_Word _ _  _ (hT.hp hH6)) (run_call2 call62 rfl rfl) <| fun w9 hH10 => vm e1_6 <| V (run_eqlU rfl rfl) <| RL.nil <| CW.condP rfl (fun h12 => ?_) (fun h12 => ?_)
  ·refine SR <| mI rfl <| aI rfl <| va (v := B true) rfl <| RL.nil <| CW.ret <| ?_
   refine outP2 Tryz.results67 (congrArg I ?_) (congrArg B ?_) hH10.below <;> rw [point_yes h0 (by omega) ‹_› hg]
  ·refine CW.skip <| CW.region <| V (run_add e11_6 rfl (by omega)) <| mI rfl <| RL.nil <| ?_
   refine ⟨k + 1, ?_, fr6.u4.u4.u1.u1, hH10, (congrArg I (by rfl)), ?_, ?_, ?_⟩
   ·((try dsimp only); omega)
   ·omega
   ·omega
   ·exact fun j x y => if e : j = k then e ▸ ‹¬ belowR r k = s› else hg j x (by omega)
 ·refine CW.exit (id := 0) rfl <| SR <| va (v := I 0) rfl <| va (v := B false) rfl <| RL.nil <| CW.ret <| ?_
  refine outP2 Tryz.results67 (congrArg I ?_) (congrArg B ?_) hH6.below <;> rw [point_no (by omega) hg]
theorem c_hasse_Raise (r : Rl) (a b : BitVec 64) (w : World) (hT : Tab w) : Calls Tryz.prog 59 #[.agg (relC r), U a, U b] w (Pure (U (raiseV r a b)) w) := by
 refine enter Tryz.func59 rfl Tryz.ntmps59 rfl <| have hH := Hp.start w; SR <| RL.new rfl hH (f := fun b => (.pointer (some ⟨b, 0, none⟩))) (run_box (v := .agg _) rfl) <| fun b3 w1 hH2 => va (v := U 0#64) rfl <| RL.nil <| CW.seq <| SR <| V (run_ldRel underlying59 rfl rfl rfl (hH2.blk (i := 0) rfl)) <| mU rfl <| RL.callP rfl hH2 (c_hasse_Point _ _  _ (hT.hp hH2)) (run_call2 call67 rfl rfl) <| fun w4 hH5 => ?_
 refine V (run_move (by conv => lhs; whnf)) ?_
 refine V (run_extract rfl (v := I _) rfl) <| V (run_extract rfl (v := B _) rfl) <| aI rfl <| aB rfl <| RL.nil <| SR <| mB rfl <| RL.nil <| CW.cond rfl (fun h7 => ?_) (fun h7 => ?_)
 ·refine SR <| V (run_ldRel underlying59 rfl rfl rfl (hH5.blk (i := 0) rfl)) <| mU rfl <| RL.callP rfl hH5 (c_hasse_Point _ _  _ (hT.hp hH5)) (run_call2 call67 rfl rfl) <| fun w8 hH9 => ?_
  refine V (run_move (by conv => lhs; whnf)) ?_
  refine V (run_extract rfl (v := I _) rfl) <| V (run_extract rfl (v := B _) rfl) <| aI rfl <| aB rfl <| RL.nil <| SR <| mB rfl <| RL.nil <| CW.cond rfl (fun h11 => ?_) (fun h11 => ?_)
  ·refine SR <| V (run_ldRel underlying59 rfl rfl rfl (hH9.blk (i := 0) rfl)) <| mI rfl <| mI rfl <| RL.callP rfl hH9 (c_hasse_Join _ _ _  _ (hT.hp hH9)) (run_call3 call63 rfl rfl rfl) <| fun w12 hH13 => ?_
   refine V (run_move (by conv => lhs; whnf)) ?_
   refine V (run_extract rfl (v := I _) rfl) <| V (run_extract rfl (v := B _) rfl) <| aI rfl <| aB rfl <| RL.nil <| SR <| mB rfl <| RL.nil <| CW.cond rfl (fun h15 => ?_) (fun h15 => ?_)
   ·refine SR <| V (run_ldRel underlying59 rfl rfl rfl (hH13.blk (i := 0) rfl)) <| mI rfl <| RL.callP rfl hH13 (c_hasse_Word _ _  _ (hT.hp hH13)) (run_call2 call62 rfl rfl) <| fun w16 hH17 => aU rfl <| RL.nil <| CW.ret <| outP1 Tryz.results59 (congrArg U ?_) hH17.below
    rw [raise_yes ‹_› ‹_› ‹_›]
   ·refine CW.skip <| SR <| mU rfl <| mU rfl <| V (run_orU rfl rfl) <| aU rfl <| RL.nil <| CW.ret <| outP1 Tryz.results59 (congrArg U ?_) hH13.below
    rw [raise_no3 ‹_›]
  ·refine CW.skip <| SR <| mU rfl <| mU rfl <| V (run_orU rfl rfl) <| aU rfl <| RL.nil <| CW.ret <| outP1 Tryz.results59 (congrArg U ?_) hH9.below
   rw [raise_no2 ‹_›]
 ·refine CW.skip <| SR <| mU rfl <| mU rfl <| V (run_orU rfl rfl) <| aU rfl <| RL.nil <| CW.ret <| outP1 Tryz.results59 (congrArg U ?_) hH5.below
  rw [raise_no1 ‹_›]
theorem c_clearanceref06_Join (r : Rl) (i j : Int) (w : World) : Calls Tryz.prog 57 #[.agg (relC r), I i, I j] w (Pure (.tuple #[I (joinV r i j).1, B (joinV r i j).2]) w) := by
 have hp := pts_bd r
 refine enter Tryz.func57 rfl Tryz.ntmps57 rfl <| have hH := Hp.start w; SR <| RL.new rfl hH (f := fun b => (.pointer (some ⟨b, 0, none⟩))) (run_box (v := .agg _) rfl) <| fun b3 w1 hH2 => va (v := I 0) rfl <| va (v := B false) rfl <| RL.nil <| CW.seq <| SR <| va (v := I 0) rfl <| RL.nil <| CW.block <| CW.loop (G := Int) (fun u s' w' => (Fr (rg 6 46 []) _ s') ∧ (Hp w w' _) ∧ (s' 8 = I u) ∧ (0 ≤ u) ∧ (u ≤ pts r) ∧ (∀ x : Int, 0 ≤ x → x < u → nearP (aboveR r) i j x = false)) (fun u => (pts r - u).toNat) (0) ⟨Fr.refl _ _, hH2, rfl, (by omega), (by omega), fun x a b => absurd b (by omega)⟩ <| ?_
 rintro u sg4 w4 ⟨fr4, hH4, e8_4, u0, u1, hg⟩
 have e1_4 := fr4.ii 1 rfl rfl
 have e2_4 := fr4.ii 2 rfl rfl
 have e3_4 := fr4.pp 3 rfl rfl
 refine CW.seq <| SR <| vm e8_4 <| V (run_ldRel underlying59 rfl rfl e3_4 (hH4.blk (i := 0) rfl)) <| RL.callP rfl hH4 (c_clearanceref03_Points _  _) (run_call1 call64 rfl) <| fun w5 hH6 => V (run_lss rfl rfl) <| RL.nil <| CW.condP rfl (fun h8 => ?_) (fun h8 => ?_)
 ·refine CW.skip <| CW.seq <| CW.block <| SR <| V (run_ldRel underlying59 rfl rfl e3_4 (hH6.blk (i := 0) rfl)) <| vm e1_4 <| vm e8_4 <| RL.callP rfl hH6 (c_clearanceref03_Has _ _ _  _) (run_call3 call65 rfl rfl rfl) <| fun w9 hH10 => mB rfl <| RL.split (dj := 21) rfl (fun h12 => ?_) (fun h12 => ?_)
  ·refine gT rfl (bR (c := true) h12) <| V (run_ldRel underlying59 rfl rfl e3_4 (hH10.blk (i := 0) rfl)) <| gT rfl (bR (c := true) h12) <| vm e2_4 <| gT rfl (bR (c := true) h12) <| vm e8_4 <| gT rfl (bR (c := true) h12) <| RL.callP rfl hH10 (c_clearanceref03_Has _ _ _  _) (run_call3 call65 rfl rfl rfl) <| fun w13 hH14 => V (run_pickT (bR (c := true) h12) (v := B _) rfl) <| aB rfl <| RL.nil <| CW.seq <| SR <| va (v := I 0) rfl <| RL.nil <| CW.block <| CW.loop (G := Int) (fun v s' w' => (Fr (9 :: 10 :: (rg 27 23 [])) _ s') ∧ (Hp w w' _) ∧ (s' 9 = B (goodJ r i j u v)) ∧ (s' 10 = I v) ∧ (0 ≤ v) ∧ (v ≤ pts r)) (fun v => (pts r - v).toNat) (0) ⟨Fr.refl _ _, hH14, (congrArg B (by simp [goodJ, upto, *])), rfl, (by omega), (by omega)⟩ <| ?_
   rintro v sg16 w16 ⟨fr16, hH16, e9_16, e10_16, v0, v1⟩
   have e1_16 := (fr16 1 rfl).trans e1_4
   have e2_16 := (fr16 2 rfl).trans e2_4
   have e3_16 := (fr16 3 rfl).trans e3_4
   have e8_16 := (fr16 8 rfl).trans e8_4
   refine CW.seq <| SR <| vm e10_16 <| V (run_ldRel underlying59 rfl rfl e3_16 (hH16.blk (i := 0) rfl)) <| RL.callP rfl hH16 (c_clearanceref03_Points _  _) (run_call1 call64 rfl) <| fun w18 hH19 => V (run_lss rfl rfl) <| RL.nil <| CW.condP rfl (fun h21 => ?_) (fun h21 => ?_)
   ·refine CW.skip <| CW.seq <| CW.block <| SR <| V (run_ldRel underlying59 rfl rfl e3_16 (hH19.blk (i := 0) rfl)) <| vm e1_16 <| vm e10_16 <| RL.callP rfl hH19 (c_clearanceref03_Has _ _ _  _) (run_call3 call65 rfl rfl rfl) <| fun w22 hH23 => mB rfl <| RL.split (dj := 37) rfl (fun h25 => ?_) (fun h25 => ?_)
    ·refine gT rfl (bR (c := true) h25) <| V (run_ldRel underlying59 rfl rfl e3_16 (hH23.blk (i := 0) rfl)) <| gT rfl (bR (c := true) h25) <| vm e2_16 <| gT rfl (bR (c := true) h25) <| vm e10_16 <| gT rfl (bR (c := true) h25) <| RL.callP rfl hH23 (c_clearanceref03_Has _ _ _  _) (run_call3 call65 rfl rfl rfl) <| fun w26 hH27 => V (run_pickT (bR (c := true) h25) (v := B _) rfl) <| mB rfl <| RL.split (dj := 43) rfl (fun h29 => ?_) (fun h29 => ?_)
     ·refine gT rfl (bR (c := true) h29) <| V (run_ldRel underlying59 rfl rfl e3_16 (hH27.blk (i := 0) rfl)) <| gT rfl (bR (c := true) h29) <| vm e8_16 <| gT rfl (bR (c := true) h29) <| vm e10_16 <| gT rfl (bR (c := true) h29) <| RL.callP rfl hH27 (c_clearanceref03_Has _ _ _  _) (run_call3 call65 rfl rfl rfl) <| fun w30 hH31 => gT rfl (bR (c := true) h29) <| V (run_not rfl) <| V (run_pickT (bR (c := true) h29) (v := B _) rfl) <| RL.nil <| CW.cond rfl (fun h34 => ?_) (fun h34 => ?_)
      ·refine CW.region <| va (v := B false) rfl <| RL.nil <| CW.region <| vm e10_16 <| V (run_add rfl rfl (by omega)) <| aI rfl <| RL.nil <| ?_
       refine ⟨v + 1, ?_, fr16.u4.u4.u4.u4.u4.u4.u1, hH31, (congrArg B (by rw [goodJ_next v0]; simp [*])), (congrArg I (by rfl)), ?_, ?_⟩
       ·((try dsimp only); omega)
       ·omega
       ·omega
      ·refine CW.skip <| CW.region <| vm e10_16 <| V (run_add rfl rfl (by omega)) <| aI rfl <| RL.nil <| ?_
       refine ⟨v + 1, ?_, fr16.u4.u4.u4.u4.u4.u4, hH31, (Eq.trans e9_16 (congrArg B (by rw [goodJ_next v0]; simp [*]))), (congrArg I (by rfl)), ?_, ?_⟩
       ·((try dsimp only); omega)
       ·omega
       ·omega
     ·refine gF rfl (bR (c := false) h29) <| gF rfl (bR (c := false) h29) <| gF rfl (bR (c := false) h29) <| gF rfl (bR (c := false) h29) <| gF rfl (bR (c := false) h29) <| V (run_pickF (bR (c := false) h29) (v := B false) rfl) <| RL.nil <| CW.condF rfl <| CW.skip <| CW.region <| vm e10_16 <| V (run_add rfl rfl (by omega)) <| aI rfl <| RL.nil <| ?_
      refine ⟨v + 1, ?_, fr16.u4.u4.u4.u4.u4.u4, hH27, (Eq.trans e9_16 (congrArg B (by rw [goodJ_next v0]; simp [*]))), (congrArg I (by rfl)), ?_, ?_⟩
      ·((try dsimp only); omega)
      ·omega
      ·omega
    ·refine gF rfl (bR (c := false) h25) <| gF rfl (bR (c := false) h25) <| gF rfl (bR (c := false) h25) <| gF rfl (bR (c := false) h25) <| V (run_pickF (bR (c := false) h25) (v := B false) rfl) <| mB rfl <| gF rfl rfl <| gF rfl rfl <| gF rfl rfl <| gF rfl rfl <| gF rfl rfl <| V (run_pickF rfl (v := B false) rfl) <| RL.nil <| CW.condF rfl <| CW.skip <| CW.region <| vm e10_16 <| V (run_add rfl rfl (by omega)) <| aI rfl <| RL.nil <| ?_
     refine ⟨v + 1, ?_, fr16.u4.u4.u4.u4.u4.u4, hH23, (Eq.trans e9_16 (congrArg B (by rw [goodJ_next v0]; simp [*]))), (congrArg I (by rfl)), ?_, ?_⟩
     ·((try dsimp only); omega)
     ·omega
     ·omega
   ·refine CW.exit (id := 2) rfl <| SR <| vm e9_16 <| RL.nil <| CW.cond rfl (fun h35 => ?_) (fun h35 => ?_)
    ·refine SR <| vm e8_16 <| aI rfl <| va (v := B true) rfl <| RL.nil <| CW.ret <| ?_
     (refine outP2 Tryz.results57 (congrArg I ?_) (congrArg B ?_) hH19.below <;> rw [join_yes u0 ‹_› (show v = pts r by omega) ‹_› hg])
    ·refine CW.skip <| CW.region <| vm e8_16 <| V (run_add rfl rfl (by omega)) <| aI rfl <| RL.nil <| ?_
     refine ⟨u + 1, ?_, (((fr4.u4.u4.u4.u4).t fr16 rfl)).u4.u4, hH19, (congrArg I (by rfl)), ?_, ?_, ?_⟩
     ·((try dsimp only); omega)
     ·omega
     ·omega
     ·exact fun x a b => if e : x = u then e ▸ (by rw [near_join r i j u (show v = pts r by omega)]; assumption) else hg x a (by omega)
  ·refine gF rfl (bR (c := false) h12) <| gF rfl (bR (c := false) h12) <| gF rfl (bR (c := false) h12) <| gF rfl (bR (c := false) h12) <| V (run_pickF (bR (c := false) h12) (v := B false) rfl) <| aB rfl <| RL.nil <| CW.seq <| SR <| va (v := I 0) rfl <| RL.nil <| CW.block <| CW.loop (G := Int) (fun v s' w' => (Fr (9 :: 10 :: (rg 27 23 [])) _ s') ∧ (Hp w w' _) ∧ (s' 9 = B (goodJ r i j u v)) ∧ (s' 10 = I v) ∧ (0 ≤ v) ∧ (v ≤ pts r)) (fun v => (pts r - v).toNat) (0) ⟨Fr.refl _ _, hH10, (congrArg B (by simp [goodJ, upto, *])), rfl, (by omega), (by omega)⟩ <| ?_
   rintro v sg36 w36 ⟨fr36, hH36, e9_36, e10_36, v0, v1⟩
   have e1_36 := (fr36 1 rfl).trans e1_4
   have e2_36 := (fr36 2 rfl).trans e2_4
   have e3_36 := (fr36 3 rfl).trans e3_4
   have e8_36 := (fr36 8 rfl).trans e8_4
   refine CW.seq <| SR <| vm e10_36 <| V (run_ldRel underlying59 rfl rfl e3_36 (hH36.blk (i := 0) rfl)) <| RL.callP rfl hH36 (c_clearanceref03_Points _  _) (run_call1 call64 rfl) <| fun w38 hH39 => V (run_lss rfl rfl) <| RL.nil <| CW.condP rfl (fun h41 => ?_) (fun h41 => ?_)
   ·refine CW.skip <| CW.seq <| CW.block <| SR <| V (run_ldRel underlying59 rfl rfl e3_36 (hH39.blk (i := 0) rfl)) <| vm e1_36 <| vm e10_36 <| RL.callP rfl hH39 (c_clearanceref03_Has _ _ _  _) (run_call3 call65 rfl rfl rfl) <| fun w42 hH43 => mB rfl <| RL.split (dj := 37) rfl (fun h45 => ?_) (fun h45 => ?_)
    ·refine gT rfl (bR (c := true) h45) <| V (run_ldRel underlying59 rfl rfl e3_36 (hH43.blk (i := 0) rfl)) <| gT rfl (bR (c := true) h45) <| vm e2_36 <| gT rfl (bR (c := true) h45) <| vm e10_36 <| gT rfl (bR (c := true) h45) <| RL.callP rfl hH43 (c_clearanceref03_Has _ _ _  _) (run_call3 call65 rfl rfl rfl) <| fun w46 hH47 => V (run_pickT (bR (c := true) h45) (v := B _) rfl) <| mB rfl <| RL.split (dj := 43) rfl (fun h49 => ?_) (fun h49 => ?_)
     ·refine gT rfl (bR (c := true) h49) <| V (run_ldRel underlying59 rfl rfl e3_36 (hH47.blk (i := 0) rfl)) <| gT rfl (bR (c := true) h49) <| vm e8_36 <| gT rfl (bR (c := true) h49) <| vm e10_36 <| gT rfl (bR (c := true) h49) <| RL.callP rfl hH47 (c_clearanceref03_Has _ _ _  _) (run_call3 call65 rfl rfl rfl) <| fun w50 hH51 => gT rfl (bR (c := true) h49) <| V (run_not rfl) <| V (run_pickT (bR (c := true) h49) (v := B _) rfl) <| RL.nil <| CW.cond rfl (fun h54 => ?_) (fun h54 => ?_)
      ·refine CW.region <| va (v := B false) rfl <| RL.nil <| CW.region <| vm e10_36 <| V (run_add rfl rfl (by omega)) <| aI rfl <| RL.nil <| ?_
       refine ⟨v + 1, ?_, fr36.u4.u4.u4.u4.u4.u4.u1, hH51, (congrArg B (by rw [goodJ_next v0]; simp [*])), (congrArg I (by rfl)), ?_, ?_⟩
       ·((try dsimp only); omega)
       ·omega
       ·omega
      ·refine CW.skip <| CW.region <| vm e10_36 <| V (run_add rfl rfl (by omega)) <| aI rfl <| RL.nil <| ?_
       refine ⟨v + 1, ?_, fr36.u4.u4.u4.u4.u4.u4, hH51, (Eq.trans e9_36 (congrArg B (by rw [goodJ_next v0]; simp [*]))), (congrArg I (by rfl)), ?_, ?_⟩
       ·((try dsimp only); omega)
       ·omega
       ·omega
     ·refine gF rfl (bR (c := false) h49) <| gF rfl (bR (c := false) h49) <| gF rfl (bR (c := false) h49) <| gF rfl (bR (c := false) h49) <| gF rfl (bR (c := false) h49) <| V (run_pickF (bR (c := false) h49) (v := B false) rfl) <| RL.nil <| CW.condF rfl <| CW.skip <| CW.region <| vm e10_36 <| V (run_add rfl rfl (by omega)) <| aI rfl <| RL.nil <| ?_
      refine ⟨v + 1, ?_, fr36.u4.u4.u4.u4.u4.u4, hH47, (Eq.trans e9_36 (congrArg B (by rw [goodJ_next v0]; simp [*]))), (congrArg I (by rfl)), ?_, ?_⟩
      ·((try dsimp only); omega)
      ·omega
      ·omega
    ·refine gF rfl (bR (c := false) h45) <| gF rfl (bR (c := false) h45) <| gF rfl (bR (c := false) h45) <| gF rfl (bR (c := false) h45) <| V (run_pickF (bR (c := false) h45) (v := B false) rfl) <| mB rfl <| gF rfl rfl <| gF rfl rfl <| gF rfl rfl <| gF rfl rfl <| gF rfl rfl <| V (run_pickF rfl (v := B false) rfl) <| RL.nil <| CW.condF rfl <| CW.skip <| CW.region <| vm e10_36 <| V (run_add rfl rfl (by omega)) <| aI rfl <| RL.nil <| ?_
     refine ⟨v + 1, ?_, fr36.u4.u4.u4.u4.u4.u4, hH43, (Eq.trans e9_36 (congrArg B (by rw [goodJ_next v0]; simp [*]))), (congrArg I (by rfl)), ?_, ?_⟩
     ·((try dsimp only); omega)
     ·omega
     ·omega
   ·refine CW.exit (id := 2) rfl <| SR <| vm e9_36 <| RL.nil <| CW.cond rfl (fun h55 => ?_) (fun h55 => ?_)
    ·refine SR <| vm e8_36 <| aI rfl <| va (v := B true) rfl <| RL.nil <| CW.ret <| ?_
     (refine outP2 Tryz.results57 (congrArg I ?_) (congrArg B ?_) hH39.below <;> rw [join_yes u0 ‹_› (show v = pts r by omega) ‹_› hg])
    ·refine CW.skip <| CW.region <| vm e8_36 <| V (run_add rfl rfl (by omega)) <| aI rfl <| RL.nil <| ?_
     refine ⟨u + 1, ?_, (((fr4.u4.u4.u4.u4).t fr36 rfl)).u4.u4, hH39, (congrArg I (by rfl)), ?_, ?_, ?_⟩
     ·((try dsimp only); omega)
     ·omega
     ·omega
     ·exact fun x a b => if e : x = u then e ▸ (by rw [near_join r i j u (show v = pts r by omega)]; assumption) else hg x a (by omega)
 ·refine CW.exit (id := 0) rfl <| SR <| va (v := I 0) rfl <| va (v := B false) rfl <| RL.nil <| CW.ret <| ?_
  (refine outP2 Tryz.results57 (congrArg I ?_) (congrArg B ?_) hH6.below <;> rw [join_no ‹_› hg])
theorem c_clearanceref06_Word (r : Rl) (i : Int) (w : World) : Calls Tryz.prog 58 #[.agg (relC r), I i] w (Pure (U (belowR r i)) w) := by
 have hp := pts_bd r
 refine enter Tryz.func58 rfl Tryz.ntmps58 rfl <| have hH := Hp.start w; SR <| RL.new rfl hH (f := fun b => (.pointer (some ⟨b, 0, none⟩))) (run_box (v := .agg _) rfl) <| fun b3 w1 hH2 => va (v := U 0#64) rfl <| RL.nil <| SR <| va (v := .slice none 0 0) rfl <| have hH4 := hH2.nilRow 3 1; RL.nil <| CW.seq <| SR <| va (v := I 0) rfl <| RL.nil <| CW.block <| CW.loop (G := Int × (List Int) × Value) (fun ⟨k, l, v5⟩ s' w' => (Fr (rg 5 16 []) _ s') ∧ (Hp w w' (.row v5 3 1 (l.length) (l.map I) :: _)) ∧ (s' 5 = v5) ∧ (s' 6 = I k) ∧ (0 ≤ k) ∧ (k ≤ pts r) ∧ (l = downTo' r i k)) (fun ⟨k, l, v5⟩ => (pts r - k).toNat) ((0, [], (.slice none 0 0 : Value))) ⟨Fr.refl _ _, hH4, rfl, rfl, (by omega), (by omega), rfl⟩ <| ?_
 rintro ⟨k, l, v5⟩ sg5 w5 ⟨fr5, hH5, e5_5, e6_5, k0, k1, hl⟩
 have e1_5 := fr5.ii 1 rfl rfl
 have e2_5 := fr5.pp 2 rfl rfl
 refine CW.seq <| SR <| vm e6_5 <| V (run_ldRel underlying59 rfl rfl e2_5 (hH5.blk (i := 1) rfl)) <| RL.callP rfl hH5 (c_clearanceref03_Points _  _) (run_call1 call64 rfl) <| fun w6 hH7 => V (run_lss rfl rfl) <| RL.nil <| CW.condP rfl (fun h9 => ?_) (fun h9 => ?_)
 ·refine CW.skip <| CW.seq <| CW.block <| SR <| V (run_ldRel underlying59 rfl rfl e2_5 (hH7.blk (i := 1) rfl)) <| vm e6_5 <| vm e1_5 <| RL.callP rfl hH7 (c_clearanceref03_Has _ _ _  _) (run_call3 call65 rfl rfl rfl) <| fun w10 hH11 => RL.nil <| CW.cond rfl (fun h13 => ?_) (fun h13 => ?_)
  ·refine CW.region <| vm e5_5 <| vm e6_5 <| RL.new rfl hH11 (f := fun b => (.slice (some ⟨b, 0, none⟩) 1 1)) (run_mkL underlying111 rfl rfl (sz := 1) (vs := [I _]) rfl rfl (by decide) (by decide) rfl rfl) <| fun b16 w14 hH15 => ?_
   (try simp only [clX] at hH15)
   refine RL.app rfl hH15 (i := 1) rfl (hH15.slBlk (i := 0) (n := 1) (sz := 1) rfl rfl (by decide)) rfl rfl underlying111 rfl rfl (size := 1) (bytes := 8) rfl rfl rfl (by decide) (by simp [Value.oneCell']) (by have := @downs_len r i k; rw [← hl] at this; omega) (by have := @downs_len r i k; rw [← hl] at this; simp only [maxLen]; omega) <| fun v17 w18 hH19 => ?_
   simp only [z2] at hH19
   refine V (run_assign (by conv => lhs; whnf)) ?_
   refine RL.nil <| CW.region <| vm e6_5 <| V (run_add rfl rfl (by omega)) <| aI rfl <| RL.nil <| ?_
   refine ⟨(k + 1, l ++ [k], v17), ?_, fr5.u4.u4.u4.u4, (Hp.conv (hH19.sub (sQ sR)) (by simp)), rfl, (congrArg I (by rfl)), ?_, ?_, ?_⟩
   ·((try dsimp only); omega)
   ·omega
   ·omega
   ·(rw [hl]; exact downs_yes k0 ‹_›)
  ·refine CW.skip <| CW.region <| vm e6_5 <| V (run_add rfl rfl (by omega)) <| aI rfl <| RL.nil <| ?_
   refine ⟨(k + 1, l, v5), ?_, fr5.u4.u4.u1.u1.u1, (Hp.conv hH11 (by rfl)), e5_5, (congrArg I (by rfl)), ?_, ?_, ?_⟩
   ·((try dsimp only); omega)
   ·omega
   ·omega
   ·(rw [hl]; exact downs_no k0 ‹_›)
 ·refine CW.exit (id := 0) rfl <| SR <| vm e5_5 <| RL.callP rfl hH7 (c_clearanceref01_Of _ _  _ (hH7.sl (i := 0) rfl)) (run_call1 call66 rfl) <| fun w20 hH21 => aU rfl <| RL.nil <| CW.ret <| outP1 Tryz.results58 (congrArg U ?_) hH21.below
  (rw [hl]; exact downs_all (by omega))
theorem c_clearanceref06_Point (r : Rl) (s : BitVec 64) (w : World) : Calls Tryz.prog 56 #[.agg (relC r), U s] w (Pure (.tuple #[I (pointV r s).1, B (pointV r s).2]) w) := by
 have hp := pts_bd r
 refine enter Tryz.func56 rfl Tryz.ntmps56 rfl <| have hH := Hp.start w; SR <| RL.new rfl hH (f := fun b => (.pointer (some ⟨b, 0, none⟩))) (run_box (v := .agg _) rfl) <| fun b3 w1 hH2 => va (v := I 0) rfl <| va (v := B false) rfl <| RL.nil <| CW.seq <| SR <| va (v := I 0) rfl <| RL.nil <| CW.block <| CW.loop (G := Int) (fun k s' w' => (Fr (rg 4 15 []) _ s') ∧ (Hp w w' _) ∧ (s' 6 = I k) ∧ (0 ≤ k) ∧ (k ≤ pts r) ∧ (∀ j : Int, 0 ≤ j → j < k → belowR r j ≠ s)) (fun k => (pts r - k).toNat) (0) ⟨Fr.refl _ _, hH2, rfl, (by omega), (by omega), fun j x y => absurd y (by omega)⟩ <| ?_
 rintro k sg4 w4 ⟨fr4, hH4, e6_4, h0, hk, hg⟩
 have e1_4 := fr4.uu 1 rfl rfl
 have e2_4 := fr4.pp 2 rfl rfl
 refine CW.seq <| SR <| vm e6_4 <| V (run_ldRel underlying59 rfl rfl e2_4 (hH4.blk (i := 0) rfl)) <| RL.callP rfl hH4 (c_clearanceref03_Points _  _) (run_call1 call64 rfl) <| fun w5 hH6 => V (run_lss rfl rfl) <| RL.nil <| CW.condP rfl (fun h8 => ?_) (fun h8 => ?_)
 ·refine CW.skip <| CW.seq <| CW.block <| SR <| V (run_ldRel underlying59 rfl rfl e2_4 (hH6.blk (i := 0) rfl)) <| vm e6_4 <| RL.callP rfl hH6 (c_clearanceref06_Word _ _  _) (run_call2 call58 rfl rfl) <| fun w9 hH10 => vm e1_4 <| V (run_eqlU rfl rfl) <| RL.nil <| CW.condP rfl (fun h12 => ?_) (fun h12 => ?_)
  ·refine SR <| vm e6_4 <| aI rfl <| va (v := B true) rfl <| RL.nil <| CW.ret <| ?_
   refine outP2 Tryz.results56 (congrArg I ?_) (congrArg B ?_) hH10.below <;> rw [point_yes h0 ‹_› ‹_› hg]
  ·refine CW.skip <| CW.region <| vm e6_4 <| V (run_add rfl rfl (by omega)) <| aI rfl <| RL.nil <| ?_
   refine ⟨k + 1, ?_, fr4.u4.u4.u4, hH10, (congrArg I (by rfl)), ?_, ?_, ?_⟩
   ·((try dsimp only); omega)
   ·omega
   ·omega
   ·exact fun j x y => if e : j = k then e ▸ ‹¬ belowR r k = s› else hg j x (by omega)
 ·refine CW.exit (id := 0) rfl <| SR <| va (v := I 0) rfl <| va (v := B false) rfl <| RL.nil <| CW.ret <| ?_
  refine outP2 Tryz.results56 (congrArg I ?_) (congrArg B ?_) hH6.below <;> rw [point_no ‹_› hg]
theorem c_clearanceref06_Raise (r : Rl) (a b : BitVec 64) (w : World) : Calls Tryz.prog 43 #[.agg (relC r), U a, U b] w (Pure (U (raiseV r a b)) w) := by
 refine enter Tryz.func43 rfl Tryz.ntmps43 rfl <| have hH := Hp.start w; SR <| RL.new rfl hH (f := fun b => (.pointer (some ⟨b, 0, none⟩))) (run_box (v := .agg _) rfl) <| fun b3 w1 hH2 => va (v := U 0#64) rfl <| RL.nil <| SR <| V (run_ldRel underlying59 rfl rfl rfl (hH2.blk (i := 0) rfl)) <| mU rfl <| RL.callP rfl hH2 (c_clearanceref06_Point _ _  _) (run_call2 call56 rfl rfl) <| fun w4 hH5 => ?_
 refine V (run_move (by conv => lhs; whnf)) ?_
 refine V (run_extract rfl (v := I _) rfl) <| V (run_extract rfl (v := B _) rfl) <| aI rfl <| aB rfl <| RL.nil <| SR <| V (run_ldRel underlying59 rfl rfl rfl (hH5.blk (i := 0) rfl)) <| mU rfl <| RL.callP rfl hH5 (c_clearanceref06_Point _ _  _) (run_call2 call56 rfl rfl) <| fun w7 hH8 => ?_
 refine V (run_move (by conv => lhs; whnf)) ?_
 refine V (run_extract rfl (v := I _) rfl) <| V (run_extract rfl (v := B _) rfl) <| aI rfl <| aB rfl <| RL.nil <| SR <| V (run_ldRel underlying59 rfl rfl rfl (hH8.blk (i := 0) rfl)) <| mI rfl <| mI rfl <| RL.callP rfl hH8 (c_clearanceref06_Join _ _ _  _) (run_call3 call57 rfl rfl rfl) <| fun w10 hH11 => ?_
 refine V (run_move (by conv => lhs; whnf)) ?_
 refine V (run_extract rfl (v := I _) rfl) <| V (run_extract rfl (v := B _) rfl) <| aI rfl <| aB rfl <| RL.nil <| CW.seq <| SR <| mB rfl <| mB rfl <| RL.split (dj := 33) rfl (fun h13 => ?_) (fun h13 => ?_)
 ·refine gT rfl (bR (c := true) h13) <| mB rfl <| V (run_pickT (bR (c := true) h13) (v := B _) rfl) <| mB rfl <| RL.split (dj := 36) rfl (fun h14 => ?_) (fun h14 => ?_)
  ·refine gT rfl (bR (c := true) h14) <| mB rfl <| V (run_pickT (bR (c := true) h14) (v := B _) rfl) <| RL.nil <| CW.cond rfl (fun h15 => ?_) (fun h15 => ?_)
   ·refine SR <| V (run_ldRel underlying59 rfl rfl rfl (hH11.blk (i := 0) rfl)) <| mI rfl <| RL.callP rfl hH11 (c_clearanceref06_Word _ _  _) (run_call2 call58 rfl rfl) <| fun w16 hH17 => aU rfl <| RL.nil <| CW.ret <| outP1 Tryz.results43 (congrArg U ?_) hH17.below
    rw [raise_yes ‹_› ‹_› ‹_›]
   ·refine CW.skip <| SR <| mU rfl <| mU rfl <| V (run_orU rfl rfl) <| aU rfl <| RL.nil <| CW.ret <| outP1 Tryz.results43 (congrArg U ?_) hH11.below
    rw [raise_no3 ‹_›]
  ·refine gF rfl (bR (c := false) h14) <| V (run_pickF (bR (c := false) h14) (v := B false) rfl) <| RL.nil <| CW.condF rfl <| CW.skip <| SR <| mU rfl <| mU rfl <| V (run_orU rfl rfl) <| aU rfl <| RL.nil <| CW.ret <| outP1 Tryz.results43 (congrArg U ?_) hH11.below
   rw [raise_no2 ‹_›]
 ·refine gF rfl (bR (c := false) h13) <| V (run_pickF (bR (c := false) h13) (v := B false) rfl) <| mB rfl <| gF rfl rfl <| V (run_pickF rfl (v := B false) rfl) <| RL.nil <| CW.condF rfl <| CW.skip <| SR <| mU rfl <| mU rfl <| V (run_orU rfl rfl) <| aU rfl <| RL.nil <| CW.ret <| outP1 Tryz.results43 (congrArg U ?_) hH11.below
  rw [raise_no1 ‹_›]
theorem c_shape_Leq (a b : El) (w : World) : Calls Tryz.prog 20 #[.agg (elC a), .agg (elC b)] w (Pure (B (leqE a b)) w) := by
 refine enter Tryz.func20 rfl Tryz.ntmps20 rfl <| have hH := Hp.start w; SR <| RL.new rfl hH (f := fun b => (.pointer (some ⟨b, 0, none⟩))) (run_box (v := .agg _) rfl) <| fun b3 w1 hH2 => RL.new rfl hH2 (f := fun b => (.pointer (some ⟨b, 0, none⟩))) (run_box (v := .agg _) rfl) <| fun b6 w4 hH5 => va (v := B false) rfl <| RL.nil <| CW.seq <| SR <| vm (v := I 0) rfl <| RL.nil <| CW.block <| CW.loop (G := Int) (fun k s' w' => (Fr (rg 4 14 []) _ s') ∧ (Hp w w' _) ∧ (s' 6 = I k) ∧ (0 ≤ k) ∧ (k ≤ 8) ∧ (∀ j : Int, 0 ≤ j → j < k → subB (a j.toNat) (b j.toNat) = true)) (fun k => (8 - k).toNat) (0) ⟨Fr.refl _ _, hH5, rfl, (by omega), (by omega), fun j u v => absurd v (by omega)⟩ <| ?_
 rintro k sg7 w7 ⟨fr7, hH7, e6_7, h0, hk, hf⟩
 have e2_7 := fr7.pp 2 rfl rfl
 have e3_7 := fr7.pp 3 rfl rfl
 refine SR <| V (run_lss e6_7 rfl) <| RL.nil <| CW.seq <| CW.condP rfl (fun h9 => ?_) (fun h9 => ?_)
 ·refine CW.skip <| CW.seq <| CW.block <| SR <| vm e6_7 <| aI rfl <| RL.nil <| CW.seq <| CW.regionD (by kernel_rfl) hH7 <| fun w10 hH11 => have zh11 := hH11.sub sR; AQ 0 rfl zh11 (mV (I _) rfl) <| AQ 1 rfl zh11 (run_indexAddrA underlying40 sizeOf38 e2_7 rfl (by omega)) <| AT 2 rfl zh11 (fun w hS => run_ld underlying38 rfl rfl (hS.cell (i := 1) rfl (elC_at _ (by omega)))) <| AQ 3 rfl zh11 (mV (I _) rfl) <| AQ 4 rfl zh11 (run_indexAddrA underlying40 sizeOf38 e3_7 rfl (by omega)) <| AT 5 rfl zh11 (fun w hS => run_ld underlying38 rfl rfl (hS.cell (i := 0) rfl (elC_at _ (by omega)))) <| A1 6 <| AO.callP rfl gnone rfl hH11 sR (c_mask_Sub _ _  _) (run_call2 call39 rfl rfl) <| fun w12 hH13 => AQ 7 rfl (hH13.sub sR) (run_not rfl) <| AD <| CW.cond rfl (fun h16 => ?_) (fun h16 => ?_)
  ·refine SR <| va (v := B false) rfl <| RL.nil <| CW.ret <| outP1 Tryz.results20 (congrArg B ?_) hH13.below
   exact (leq_no h0 ‹_› (nt ‹_›)).symm
  ·refine CW.skip <| CW.region <| V (run_add e6_7 rfl (by omega)) <| mI rfl <| RL.nil <| ?_
   refine ⟨k + 1, ?_, fr7.u4.u4.u4.u1, hH13, (congrArg I (by rfl)), ?_, ?_, ?_⟩
   ·((try dsimp only); omega)
   ·omega
   ·omega
   ·exact fun j u v => if e : j = k then e ▸ nf ‹_› else hf j u (by omega)
 ·refine CW.exit (id := 0) rfl <| SR <| va (v := B true) rfl <| RL.nil <| CW.ret <| outP1 Tryz.results20 (congrArg B ?_) hH7.below
  exact (leq_yes ‹_› hf).symm
theorem c_shape_Join (s : Shp) (a b : El) (w : World) (hs : ShpV (Kw w) s) (hT : Tab w) : Calls Tryz.prog 49 #[.agg (shpC s), .agg (elC a), .agg (elC b)] w (Pure (.agg (elC (joinS s.sh a b))) w) := by
 have hsl := sh_len s
 have hm := hs.facs.sl.small
 unfold maxLen at hm
 refine enter Tryz.func49 rfl Tryz.ntmps49 rfl <| have hH := Hp.start w; SR <| RL.new rfl hH (f := fun b => (.pointer (some ⟨b, 0, none⟩))) (run_box (v := .agg _) rfl) <| fun b3 w1 hH2 => RL.new rfl hH2 (f := fun b => (.pointer (some ⟨b, 0, none⟩))) (run_box (v := .agg _) rfl) <| fun b6 w4 hH5 => RL.new rfl hH5 (f := fun b => (.pointer (some ⟨b, 0, none⟩))) (run_box (v := .agg _) rfl) <| fun b9 w7 hH8 => RL.new rfl hH8 (f := fun b => (.pointer (some ⟨b, 0, none⟩))) (run_alloc zero_el) <| fun b12 w10 hH11 => RL.nil <| CW.seq <| SR <| vm (v := I 0) rfl <| RL.nil <| CW.block <| CW.loop (G := Int × El) (fun ⟨k, e1⟩ s' w' => (Fr (rg 7 42 []) _ s') ∧ (Hp w w' (_ :: _ :: .blk b6 (.cells (elC e1) 40 (0, 0)) :: _)) ∧ (s' 8 = I k) ∧ (0 ≤ k) ∧ (k ≤ 8) ∧ (e1 = mixE (joinS s.sh a b) a k)) (fun ⟨k, e1⟩ => (8 - k).toNat) ((0, a)) ⟨Fr.refl _ _, hH11, rfl, (by omega), (by omega), (mix_zero _ _).symm⟩ <| ?_
 rintro ⟨k, e1⟩ sg13 w13 ⟨fr13, hH13, e8_13, h0, hk, hr⟩
 have e3_13 := fr13.pp 3 rfl rfl
 have e4_13 := fr13.pp 4 rfl rfl
 have e5_13 := fr13.pp 5 rfl rfl
 have e6_13 := fr13.pp 6 rfl rfl
 refine SR <| V (run_lss e8_13 rfl) <| RL.nil <| CW.seq <| CW.condP rfl (fun h15 => ?_) (fun h15 => ?_)
 ·refine CW.skip <| CW.seq <| CW.block <| SR <| vm e8_13 <| aI rfl <| RL.nil <| CW.seq <| SR <| mI rfl <| V (fA underlying24 1 rfl sizeOf22 e3_13) <| V (run_ld underlying22 rfl rfl (hH13.cell (i := 3) rfl rfl)) <| V (run_lenSl (hs.facs.sl.hp hH13) rfl underlying22 rfl) <| V (run_lss rfl rfl) <| mB rfl <| RL.splitP (dj := 16) rfl (fun h17 => ?_) (fun h17 => ?_)
  ·refine gT rfl (bT h17) <| V (fA underlying24 1 rfl sizeOf22 e3_13) <| gT rfl (bT h17) <| V (run_ld underlying22 rfl rfl (hH13.cell (i := 3) rfl rfl)) <| gT rfl (bT h17) <| mI rfl <| gT rfl (bT h17) <| V (run_indexAddrS (hs.facs.sl.hp hH13) underlying22 sizeOf61 rfl rfl (by omega)) <| gT rfl (bT h17) <| V (fA underlying61 0 rfl sizeOf3 rfl) <| gT rfl (bT h17) <| V (run_ldE1 (dv := fac0) facL_len (hs.facs.sl.hp hH13) underlying3 rfl rfl (by omega) rfl) <| gT rfl (bT h17) <| V (run_eql rfl rfl) <| V (run_pickT (bT h17) (v := B _) rfl) <| RL.nil <| CW.condP rfl (fun h19 => ?_) (fun h19 => ?_)
   ·refine CW.seq <| CW.regionS (by kernel_rfl) hH13 (sP (sP (sQ sR))) <| fun w20 hH21 => have zh21 := hH21.sub (sP (sP (sQ sR))); AQ 0 rfl zh21 (mV (I _) rfl) <| AQ 1 rfl zh21 (fA underlying24 1 rfl sizeOf22 e3_13) <| AT 2 rfl zh21 (fun w hS => run_ld underlying22 rfl rfl (hS.cell (i := 2) rfl rfl)) <| AQ 3 rfl zh21 (mV (I _) rfl) <| AT 4 rfl zh21 (fun w hS => run_indexAddrS (hs.facs.sl.hp hS) underlying22 sizeOf61 rfl rfl (by omega)) <| AQ 5 rfl zh21 (fA underlying61 2 rfl sizeOf59 rfl) <| AT 6 rfl zh21 (fun w hS => run_ldFR (hs.facs.sl.hp hS) underlying59 rfl rfl rfl (by omega)) <| AQ 7 rfl zh21 (mV (I _) rfl) <| AQ 8 rfl zh21 (run_indexAddrA underlying40 sizeOf38 e4_13 rfl (by omega)) <| AQ 10 rfl zh21 (mV (I _) rfl) <| AQ 11 rfl zh21 (run_indexAddrA underlying40 sizeOf38 e5_13 rfl (by omega)) <| AT 12 rfl zh21 (fun w hS => run_ld underlying38 rfl rfl (hS.cell (i := 1) rfl (elC_at _ (by omega)))) <| A1 9 <| AO.read rfl gnone rfl hH21 (sP (sP (sQ sR))) (run_ld underlying38 rfl rfl (hH21.cell (i := 2) rfl (elC_at _ (by omega)))) <| A1 13 <| AO.callP rfl gnone rfl hH21 (sP (sP (sQ sR))) (c_hasse_Raise _ _ _  _ (hT.hp hH21)) (run_call3 call59 rfl rfl rfl) <| fun w24 hH25 => AQ 14 rfl (hH25.sub (sP (sP (sQ sR)))) (run_indexAddrA underlying40 sizeOf38 e4_13 rfl (by omega)) <| A1 15 <| AO.set rfl gnone hH25 (j := 2) rfl (sP (sP (sQ sR))) (run_st rfl rfl (v := U _) rfl rfl rfl (hH25.blk (i := 2) rfl) (by rw [elC_size]; omega)) <| fun w28 hH29 => ?_
    simp only [z2] at hH29
    rw [elC_put] at hH29
    refine AD <| CW.exit (id := 1) rfl <| CW.region <| V (run_add e8_13 rfl (by omega)) <| mI rfl <| RL.nil <| ?_
    refine ⟨(k + 1, _), ?_, fr13.u4.u4.u4.u4.u4.u4.u4.u4.u1.u1, hH29, (congrArg I (by rfl)), ?_, ?_, ?_⟩
    ·((try dsimp only); omega)
    ·omega
    ·omega
    ·exact join_put4 hr h0 ‹_› ‹_›
   ·refine CW.skip <| CW.regionS (by kernel_rfl) hH13 (sP (sP (sQ sR))) <| fun w30 hH31 => have zh31 := hH31.sub (sP (sP (sQ sR))); AQ 0 rfl zh31 (mV (I _) rfl) <| AQ 1 rfl zh31 (run_indexAddrA underlying40 sizeOf38 e4_13 rfl (by omega)) <| AQ 3 rfl zh31 (mV (I _) rfl) <| AQ 4 rfl zh31 (run_indexAddrA underlying40 sizeOf38 e5_13 rfl (by omega)) <| AT 5 rfl zh31 (fun w hS => run_ld underlying38 rfl rfl (hS.cell (i := 1) rfl (elC_at _ (by omega)))) <| A1 2 <| AO.read rfl gnone rfl hH31 (sP (sP (sQ sR))) (run_ld underlying38 rfl rfl (hH31.cell (i := 2) rfl (elC_at _ (by omega)))) <| AQ 6 rfl zh31 (run_orU rfl rfl) <| AQ 7 rfl zh31 (run_indexAddrA underlying40 sizeOf38 e4_13 rfl (by omega)) <| A1 8 <| AO.set rfl gnone hH31 (j := 2) rfl (sP (sP (sQ sR))) (run_st rfl rfl (v := U _) rfl rfl rfl (hH31.blk (i := 2) rfl) (by rw [elC_size]; omega)) <| fun w36 hH37 => ?_
    simp only [z2] at hH37
    rw [elC_put] at hH37
    refine AD <| CW.region <| V (run_add e8_13 rfl (by omega)) <| mI rfl <| RL.nil <| ?_
    refine ⟨(k + 1, _), ?_, fr13.u4.u4.u4.u4.u4.u4.u1.u1.u1, hH37, (congrArg I (by rfl)), ?_, ?_, ?_⟩
    ·((try dsimp only); omega)
    ·omega
    ·omega
    ·exact join_putO hr h0 (fun hc => absurd hc.1 (by omega))
  ·refine gF rfl (bF h17) <| gF rfl (bF h17) <| gF rfl (bF h17) <| gF rfl (bF h17) <| gF rfl (bF h17) <| gF rfl (bF h17) <| gF rfl (bF h17) <| V (run_pickF (bF h17) (v := B false) rfl) <| RL.nil <| CW.condF rfl <| CW.skip <| CW.regionS (by kernel_rfl) hH13 (sP (sP (sQ sR))) <| fun w38 hH39 => have zh39 := hH39.sub (sP (sP (sQ sR))); AQ 0 rfl zh39 (mV (I _) rfl) <| AQ 1 rfl zh39 (run_indexAddrA underlying40 sizeOf38 e4_13 rfl (by omega)) <| AQ 3 rfl zh39 (mV (I _) rfl) <| AQ 4 rfl zh39 (run_indexAddrA underlying40 sizeOf38 e5_13 rfl (by omega)) <| AT 5 rfl zh39 (fun w hS => run_ld underlying38 rfl rfl (hS.cell (i := 1) rfl (elC_at _ (by omega)))) <| A1 2 <| AO.read rfl gnone rfl hH39 (sP (sP (sQ sR))) (run_ld underlying38 rfl rfl (hH39.cell (i := 2) rfl (elC_at _ (by omega)))) <| AQ 6 rfl zh39 (run_orU rfl rfl) <| AQ 7 rfl zh39 (run_indexAddrA underlying40 sizeOf38 e4_13 rfl (by omega)) <| A1 8 <| AO.set rfl gnone hH39 (j := 2) rfl (sP (sP (sQ sR))) (run_st rfl rfl (v := U _) rfl rfl rfl (hH39.blk (i := 2) rfl) (by rw [elC_size]; omega)) <| fun w44 hH45 => ?_
   simp only [z2] at hH45
   rw [elC_put] at hH45
   refine AD <| CW.region <| V (run_add e8_13 rfl (by omega)) <| mI rfl <| RL.nil <| ?_
   refine ⟨(k + 1, _), ?_, fr13.u4.u4.u4.u4.u4.u4.u1.u1.u1, hH45, (congrArg I (by rfl)), ?_, ?_, ?_⟩
   ·((try dsimp only); omega)
   ·omega
   ·omega
   ·exact join_putO hr h0 (fun hc => absurd hc.1 (by omega))
 ·refine CW.exit (id := 0) rfl <| SR <| V (run_ldEl underlying40 rfl rfl e4_13 (hH13.blk (i := 2) rfl)) <| RL.set hH13 (i := 0) rfl (run_stEl rfl e6_13 rfl (hH13.blk (i := 0) rfl)) <| fun w46 hH47 => ?_
  simp only [z2] at hH47
  refine RL.nil <| CW.ret <| outCg Tryz.results49 e6_13 hH47 (i := 0) rfl underlying40 rfl (by rw [elC_size]; rfl) ⟨?_, hH47.below⟩
  (exact congrArg Value.agg (elC_congr (by rw [hr]; exact mix_all ‹_›)))
theorem c_shape_Meet (a b : El) (w : World) : Calls Tryz.prog 50 #[.agg (elC a), .agg (elC b)] w (Pure (.agg (elC (meetE a b))) w) := by
 refine enter Tryz.func50 rfl Tryz.ntmps50 rfl <| have hH := Hp.start w; SR <| RL.new rfl hH (f := fun b => (.pointer (some ⟨b, 0, none⟩))) (run_box (v := .agg _) rfl) <| fun b3 w1 hH2 => RL.new rfl hH2 (f := fun b => (.pointer (some ⟨b, 0, none⟩))) (run_box (v := .agg _) rfl) <| fun b6 w4 hH5 => RL.new rfl hH5 (f := fun b => (.pointer (some ⟨b, 0, none⟩))) (run_alloc zero_el) <| fun b9 w7 hH8 => RL.nil <| CW.seq <| SR <| vm (v := I 0) rfl <| RL.nil <| CW.block <| CW.loop (G := Int × El) (fun ⟨k, e1⟩ s' w' => (Fr (rg 5 13 []) _ s') ∧ (Hp w w' (_ :: _ :: .blk b3 (.cells (elC e1) 40 (0, 0)) :: _)) ∧ (s' 6 = I k) ∧ (0 ≤ k) ∧ (k ≤ 8) ∧ (e1 = mixE (meetE a b) a k)) (fun ⟨k, e1⟩ => (8 - k).toNat) ((0, a)) ⟨Fr.refl _ _, hH8, rfl, (by omega), (by omega), (mix_zero _ _).symm⟩ <| ?_
 rintro ⟨k, e1⟩ sg10 w10 ⟨fr10, hH10, e6_10, h0, hk, hr⟩
 have e2_10 := fr10.pp 2 rfl rfl
 have e3_10 := fr10.pp 3 rfl rfl
 have e4_10 := fr10.pp 4 rfl rfl
 refine SR <| V (run_lss e6_10 rfl) <| RL.nil <| CW.seq <| CW.condP rfl (fun h12 => ?_) (fun h12 => ?_)
 ·refine CW.skip <| CW.seq <| CW.block <| SR <| vm e6_10 <| aI rfl <| RL.nil <| CW.regionS (by kernel_rfl) hH10 (sP (sP (sQ sR))) <| fun w13 hH14 => have zh14 := hH14.sub (sP (sP (sQ sR))); AQ 0 rfl zh14 (mV (I _) rfl) <| AQ 1 rfl zh14 (run_indexAddrA underlying40 sizeOf38 e2_10 rfl (by omega)) <| AQ 3 rfl zh14 (mV (I _) rfl) <| AQ 4 rfl zh14 (run_indexAddrA underlying40 sizeOf38 e3_10 rfl (by omega)) <| AT 5 rfl zh14 (fun w hS => run_ld underlying38 rfl rfl (hS.cell (i := 1) rfl (elC_at _ (by omega)))) <| A1 2 <| AO.read rfl gnone rfl hH14 (sP (sP (sQ sR))) (run_ld underlying38 rfl rfl (hH14.cell (i := 2) rfl (elC_at _ (by omega)))) <| AQ 6 rfl zh14 (run_andU rfl rfl) <| AQ 7 rfl zh14 (run_indexAddrA underlying40 sizeOf38 e2_10 rfl (by omega)) <| A1 8 <| AO.set rfl gnone hH14 (j := 2) rfl (sP (sP (sQ sR))) (run_st rfl rfl (v := U _) rfl rfl rfl (hH14.blk (i := 2) rfl) (by rw [elC_size]; omega)) <| fun w19 hH20 => ?_
  simp only [z2] at hH20
  rw [elC_put] at hH20
  refine AD <| CW.region <| V (run_add e6_10 rfl (by omega)) <| mI rfl <| RL.nil <| ?_
  refine ⟨(k + 1, _), ?_, fr10.u4.u4.u4.u1, hH20, (congrArg I (by rfl)), ?_, ?_, ?_⟩
  ·((try dsimp only); omega)
  ·omega
  ·omega
  ·exact meet_put hr h0
 ·refine CW.exit (id := 0) rfl <| SR <| V (run_ldEl underlying40 rfl rfl e2_10 (hH10.blk (i := 2) rfl)) <| RL.set hH10 (i := 0) rfl (run_stEl rfl e4_10 rfl (hH10.blk (i := 0) rfl)) <| fun w21 hH22 => ?_
  simp only [z2] at hH22
  refine RL.nil <| CW.ret <| outCg Tryz.results50 e4_10 hH22 (i := 0) rfl underlying40 rfl (by rw [elC_size]; rfl) ⟨?_, hH22.below⟩
  (exact congrArg Value.agg (elC_congr (by rw [hr]; exact mix_all ‹_›)))
theorem c_clearanceref07_Leq (a b : El) (w : World) : Calls Tryz.prog 22 #[.agg (elC a), .agg (elC b)] w (Pure (B (leqE a b)) w) := by
 refine enter Tryz.func22 rfl Tryz.ntmps22 rfl <| have hH := Hp.start w; SR <| RL.new rfl hH (f := fun b => (.pointer (some ⟨b, 0, none⟩))) (run_box (v := .agg _) rfl) <| fun b3 w1 hH2 => RL.new rfl hH2 (f := fun b => (.pointer (some ⟨b, 0, none⟩))) (run_box (v := .agg _) rfl) <| fun b6 w4 hH5 => va (v := B false) rfl <| RL.nil <| CW.seq <| SR <| va (v := I 0) rfl <| RL.nil <| CW.block <| CW.loop (G := Int) (fun k s' w' => (Fr (rg 4 14 []) _ s') ∧ (Hp w w' _) ∧ (s' 5 = I k) ∧ (0 ≤ k) ∧ (k ≤ 8) ∧ (∀ j : Int, 0 ≤ j → j < k → subB (a j.toNat) (b j.toNat) = true)) (fun k => (8 - k).toNat) (0) ⟨Fr.refl _ _, hH5, rfl, (by omega), (by omega), fun j u v => absurd v (by omega)⟩ <| ?_
 rintro k sg7 w7 ⟨fr7, hH7, e5_7, h0, hk, hf⟩
 have e2_7 := fr7.pp 2 rfl rfl
 have e3_7 := fr7.pp 3 rfl rfl
 refine CW.seq <| SR <| vm e5_7 <| V (run_lss rfl rfl) <| RL.nil <| CW.condP rfl (fun h9 => ?_) (fun h9 => ?_)
 ·refine CW.skip <| CW.seq <| CW.block <| CW.seq <| CW.regionD (by kernel_rfl) hH7 <| fun w10 hH11 => have zh11 := hH11.sub sR; AQ 0 rfl zh11 (run_move e5_7) <| AQ 1 rfl zh11 (run_indexAddrA underlying40 sizeOf38 e2_7 rfl (by omega)) <| AT 2 rfl zh11 (fun w hS => run_ld underlying38 rfl rfl (hS.cell (i := 1) rfl (elC_at _ (by omega)))) <| AQ 3 rfl zh11 (run_move e5_7) <| AQ 4 rfl zh11 (run_indexAddrA underlying40 sizeOf38 e3_7 rfl (by omega)) <| AT 5 rfl zh11 (fun w hS => run_ld underlying38 rfl rfl (hS.cell (i := 0) rfl (elC_at _ (by omega)))) <| A1 6 <| AO.callP rfl gnone rfl hH11 sR (c_clearanceref01_Sub _ _  _) (run_call2 call42 rfl rfl) <| fun w12 hH13 => AQ 7 rfl (hH13.sub sR) (run_not rfl) <| AD <| CW.cond rfl (fun h16 => ?_) (fun h16 => ?_)
  ·refine SR <| va (v := B false) rfl <| RL.nil <| CW.ret <| outP1 Tryz.results22 (congrArg B ?_) hH13.below
   exact (leq_no h0 ‹_› (nt ‹_›)).symm
  ·refine CW.skip <| CW.region <| vm e5_7 <| V (run_add rfl rfl (by omega)) <| aI rfl <| RL.nil <| ?_
   refine ⟨k + 1, ?_, fr7.u4.u4.u4.u1, hH13, (congrArg I (by rfl)), ?_, ?_, ?_⟩
   ·((try dsimp only); omega)
   ·omega
   ·omega
   ·exact fun j u v => if e : j = k then e ▸ nf ‹_› else hf j u (by omega)
 ·refine CW.exit (id := 0) rfl <| SR <| va (v := B true) rfl <| RL.nil <| CW.ret <| outP1 Tryz.results22 (congrArg B ?_) hH7.below
  exact (leq_yes ‹_› hf).symm
theorem c_clearanceref07_Join (s : Shp) (a b : El) (w : World) (hs : ShpV (Kw w) s) : Calls Tryz.prog 23 #[.agg (shpC s), .agg (elC a), .agg (elC b)] w (Pure (.agg (elC (joinS s.sh a b))) w) := by
 have hsl := sh_len s
 have hm := hs.facs.sl.small
 unfold maxLen at hm
 refine enter Tryz.func23 rfl Tryz.ntmps23 rfl <| have hH := Hp.start w; SR <| RL.new rfl hH (f := fun b => (.pointer (some ⟨b, 0, none⟩))) (run_box (v := .agg _) rfl) <| fun b3 w1 hH2 => RL.new rfl hH2 (f := fun b => (.pointer (some ⟨b, 0, none⟩))) (run_box (v := .agg _) rfl) <| fun b6 w4 hH5 => RL.new rfl hH5 (f := fun b => (.pointer (some ⟨b, 0, none⟩))) (run_box (v := .agg _) rfl) <| fun b9 w7 hH8 => RL.new rfl hH8 (f := fun b => (.pointer (some ⟨b, 0, none⟩))) (run_alloc zero_el) <| fun b12 w10 hH11 => RL.nil <| SR <| RL.new rfl hH11 (f := fun b => (.pointer (some ⟨b, 0, none⟩))) (run_alloc zero_el) <| fun b15 w13 hH14 => RL.nil <| CW.seq <| SR <| va (v := I 0) rfl <| RL.nil <| CW.block <| CW.loop (G := Int × El) (fun ⟨k, e1⟩ s' w' => (Fr (rg 8 43 []) _ s') ∧ (Hp w w' (.blk b15 (.cells (elC e1) 40 (0, 0)) :: _)) ∧ (s' 8 = I k) ∧ (0 ≤ k) ∧ (k ≤ 8) ∧ (e1 = mixE (joinS s.sh a b) el0 k)) (fun ⟨k, e1⟩ => (8 - k).toNat) ((0, el0)) ⟨Fr.refl _ _, hH14, rfl, (by omega), (by omega), (mix_zero _ _).symm⟩ <| ?_
 rintro ⟨k, e1⟩ sg16 w16 ⟨fr16, hH16, e8_16, h0, hk, hr⟩
 have e3_16 := fr16.pp 3 rfl rfl
 have e4_16 := fr16.pp 4 rfl rfl
 have e5_16 := fr16.pp 5 rfl rfl
 have e6_16 := fr16.pp 6 rfl rfl
 have e7_16 := fr16.pp 7 rfl rfl
 refine CW.seq <| SR <| vm e8_16 <| V (run_lss rfl rfl) <| RL.nil <| CW.condP rfl (fun h18 => ?_) (fun h18 => ?_)
 ·refine CW.skip <| CW.seq <| CW.block <| CW.seq <| CW.regionS (by kernel_rfl) hH16 (sQ sR) <| fun w19 hH20 => have zh20 := hH20.sub (sQ sR); AQ 0 rfl zh20 (run_move e8_16) <| AQ 1 rfl zh20 (run_move e8_16) <| AQ 2 rfl zh20 (run_indexAddrA underlying40 sizeOf38 e4_16 rfl (by omega)) <| AT 3 rfl zh20 (fun w hS => run_ld underlying38 rfl rfl (hS.cell (i := 2) rfl (elC_at _ (by omega)))) <| AQ 4 rfl zh20 (run_move e8_16) <| AQ 5 rfl zh20 (run_indexAddrA underlying40 sizeOf38 e5_16 rfl (by omega)) <| AT 6 rfl zh20 (fun w hS => run_ld underlying38 rfl rfl (hS.cell (i := 1) rfl (elC_at _ (by omega)))) <| AQ 7 rfl zh20 (run_orU rfl rfl) <| AQ 8 rfl zh20 (run_indexAddrA underlying40 sizeOf38 e7_16 rfl (by omega)) <| A1 9 <| AO.set rfl gnone hH20 (j := 0) rfl (sQ sR) (run_st rfl rfl (v := U _) rfl rfl rfl (hH20.blk (i := 0) rfl) (by rw [elC_size]; omega)) <| fun w23 hH24 => ?_
  simp only [z2] at hH24
  rw [elC_put] at hH24
  refine AD <| SR <| vm e8_16 <| V (fA underlying24 1 rfl sizeOf22 e3_16) <| V (run_ld underlying22 rfl rfl (hH24.cell (i := 4) rfl rfl)) <| V (run_lenSl (hs.facs.sl.hp hH24) rfl underlying22 rfl) <| V (run_lss rfl rfl) <| mB rfl <| RL.splitP (dj := 27) rfl (fun h26 => ?_) (fun h26 => ?_)
  ·refine gT rfl (bT h26) <| V (fA underlying24 1 rfl sizeOf22 e3_16) <| gT rfl (bT h26) <| V (run_ld underlying22 rfl rfl (hH24.cell (i := 4) rfl rfl)) <| gT rfl (bT h26) <| vm e8_16 <| gT rfl (bT h26) <| V (run_indexAddrS (hs.facs.sl.hp hH24) underlying22 sizeOf61 rfl rfl (by omega)) <| gT rfl (bT h26) <| V (fA underlying61 0 rfl sizeOf3 rfl) <| gT rfl (bT h26) <| V (run_ldE1 (dv := fac0) facL_len (hs.facs.sl.hp hH24) underlying3 rfl rfl (by omega) rfl) <| gT rfl (bT h26) <| V (run_eql rfl rfl) <| V (run_pickT (bT h26) (v := B _) rfl) <| RL.nil <| CW.condP rfl (fun h28 => ?_) (fun h28 => ?_)
   ·refine CW.regionS (by kernel_rfl) hH24 (sQ sR) <| fun w29 hH30 => have zh30 := hH30.sub (sQ sR); AQ 0 rfl zh30 (run_move e8_16) <| AQ 1 rfl zh30 (fA underlying24 1 rfl sizeOf22 e3_16) <| AT 2 rfl zh30 (fun w hS => run_ld underlying22 rfl rfl (hS.cell (i := 3) rfl rfl)) <| AQ 3 rfl zh30 (run_move e8_16) <| AT 4 rfl zh30 (fun w hS => run_indexAddrS (hs.facs.sl.hp hS) underlying22 sizeOf61 rfl rfl (by omega)) <| AQ 5 rfl zh30 (fA underlying61 2 rfl sizeOf59 rfl) <| AT 6 rfl zh30 (fun w hS => run_ldFR (hs.facs.sl.hp hS) underlying59 rfl rfl rfl (by omega)) <| AQ 7 rfl zh30 (run_move e8_16) <| AQ 8 rfl zh30 (run_indexAddrA underlying40 sizeOf38 e4_16 rfl (by omega)) <| AT 9 rfl zh30 (fun w hS => run_ld underlying38 rfl rfl (hS.cell (i := 2) rfl (elC_at _ (by omega)))) <| AQ 10 rfl zh30 (run_move e8_16) <| AQ 11 rfl zh30 (run_indexAddrA underlying40 sizeOf38 e5_16 rfl (by omega)) <| AT 12 rfl zh30 (fun w hS => run_ld underlying38 rfl rfl (hS.cell (i := 1) rfl (elC_at _ (by omega)))) <| A1 13 <| AO.callP rfl gnone rfl hH30 (sQ sR) (c_clearanceref06_Raise _ _ _  _) (run_call3 call43 rfl rfl rfl) <| fun w31 hH32 => AQ 14 rfl (hH32.sub (sQ sR)) (run_indexAddrA underlying40 sizeOf38 e7_16 rfl (by omega)) <| A1 15 <| AO.set rfl gnone hH32 (j := 0) rfl (sQ sR) (run_st rfl rfl (v := U _) rfl rfl rfl (hH32.blk (i := 0) rfl) (by rw [elC_size]; omega)) <| fun w35 hH36 => ?_
    simp only [z2] at hH36
    rw [elC_put] at hH36
    refine AD <| CW.region <| vm e8_16 <| V (run_add rfl rfl (by omega)) <| aI rfl <| RL.nil <| ?_
    refine ⟨(k + 1, _), ?_, fr16.u4.u4.u4.u4.u4.u4.u4.u4.u4.u4.u1.u1.u1, hH36, (congrArg I (by rfl)), ?_, ?_, ?_⟩
    ·((try dsimp only); omega)
    ·omega
    ·omega
    ·exact join_putR4 hr h0 ‹_› ‹_›
   ·refine CW.skip <| CW.region <| vm e8_16 <| V (run_add rfl rfl (by omega)) <| aI rfl <| RL.nil <| ?_
    refine ⟨(k + 1, _), ?_, fr16.u4.u4.u4.u4.u4.u4.u4, hH24, (congrArg I (by rfl)), ?_, ?_, ?_⟩
    ·((try dsimp only); omega)
    ·omega
    ·omega
    ·exact join_putRO hr h0 (fun hc => absurd hc.1 (by omega))
  ·refine gF rfl (bF h26) <| gF rfl (bF h26) <| gF rfl (bF h26) <| gF rfl (bF h26) <| gF rfl (bF h26) <| gF rfl (bF h26) <| gF rfl (bF h26) <| V (run_pickF (bF h26) (v := B false) rfl) <| RL.nil <| CW.condF rfl <| CW.skip <| CW.region <| vm e8_16 <| V (run_add rfl rfl (by omega)) <| aI rfl <| RL.nil <| ?_
   refine ⟨(k + 1, _), ?_, fr16.u4.u4.u4.u4.u4.u4.u4, hH24, (congrArg I (by rfl)), ?_, ?_, ?_⟩
   ·((try dsimp only); omega)
   ·omega
   ·omega
   ·exact join_putRO hr h0 (fun hc => absurd hc.1 (by omega))
 ·refine CW.exit (id := 0) rfl <| SR <| V (run_ldEl underlying40 rfl rfl e7_16 (hH16.blk (i := 0) rfl)) <| RL.set hH16 (i := 1) rfl (run_stEl rfl e6_16 rfl (hH16.blk (i := 1) rfl)) <| fun w37 hH38 => ?_
  simp only [z2] at hH38
  refine RL.nil <| CW.ret <| outCg Tryz.results23 e6_16 hH38 (i := 1) rfl underlying40 rfl (by rw [elC_size]; rfl) ⟨?_, hH38.below⟩
  (exact congrArg Value.agg (elC_congr (by rw [hr]; exact mix_all ‹_›)))
theorem c_clearanceref07_Meet (a b : El) (w : World) : Calls Tryz.prog 45 #[.agg (elC a), .agg (elC b)] w (Pure (.agg (elC (meetE a b))) w) := by
 refine enter Tryz.func45 rfl Tryz.ntmps45 rfl <| have hH := Hp.start w; SR <| RL.new rfl hH (f := fun b => (.pointer (some ⟨b, 0, none⟩))) (run_box (v := .agg _) rfl) <| fun b3 w1 hH2 => RL.new rfl hH2 (f := fun b => (.pointer (some ⟨b, 0, none⟩))) (run_box (v := .agg _) rfl) <| fun b6 w4 hH5 => RL.new rfl hH5 (f := fun b => (.pointer (some ⟨b, 0, none⟩))) (run_alloc zero_el) <| fun b9 w7 hH8 => RL.nil <| SR <| RL.new rfl hH8 (f := fun b => (.pointer (some ⟨b, 0, none⟩))) (run_alloc zero_el) <| fun b12 w10 hH11 => RL.nil <| CW.seq <| SR <| va (v := I 0) rfl <| RL.nil <| CW.block <| CW.loop (G := Int × El) (fun ⟨k, e1⟩ s' w' => (Fr (rg 6 14 []) _ s') ∧ (Hp w w' (.blk b12 (.cells (elC e1) 40 (0, 0)) :: _)) ∧ (s' 6 = I k) ∧ (0 ≤ k) ∧ (k ≤ 8) ∧ (e1 = mixE (meetE a b) el0 k)) (fun ⟨k, e1⟩ => (8 - k).toNat) ((0, el0)) ⟨Fr.refl _ _, hH11, rfl, (by omega), (by omega), (mix_zero _ _).symm⟩ <| ?_
 rintro ⟨k, e1⟩ sg13 w13 ⟨fr13, hH13, e6_13, h0, hk, hr⟩
 have e2_13 := fr13.pp 2 rfl rfl
 have e3_13 := fr13.pp 3 rfl rfl
 have e4_13 := fr13.pp 4 rfl rfl
 have e5_13 := fr13.pp 5 rfl rfl
 refine CW.seq <| SR <| vm e6_13 <| V (run_lss rfl rfl) <| RL.nil <| CW.condP rfl (fun h15 => ?_) (fun h15 => ?_)
 ·refine CW.skip <| CW.seq <| CW.block <| CW.regionS (by kernel_rfl) hH13 (sQ sR) <| fun w16 hH17 => have zh17 := hH17.sub (sQ sR); AQ 0 rfl zh17 (run_move e6_13) <| AQ 1 rfl zh17 (run_move e6_13) <| AQ 2 rfl zh17 (run_indexAddrA underlying40 sizeOf38 e2_13 rfl (by omega)) <| AT 3 rfl zh17 (fun w hS => run_ld underlying38 rfl rfl (hS.cell (i := 2) rfl (elC_at _ (by omega)))) <| AQ 4 rfl zh17 (run_move e6_13) <| AQ 5 rfl zh17 (run_indexAddrA underlying40 sizeOf38 e3_13 rfl (by omega)) <| AT 6 rfl zh17 (fun w hS => run_ld underlying38 rfl rfl (hS.cell (i := 1) rfl (elC_at _ (by omega)))) <| AQ 7 rfl zh17 (run_andU rfl rfl) <| AQ 8 rfl zh17 (run_indexAddrA underlying40 sizeOf38 e5_13 rfl (by omega)) <| A1 9 <| AO.set rfl gnone hH17 (j := 0) rfl (sQ sR) (run_st rfl rfl (v := U _) rfl rfl rfl (hH17.blk (i := 0) rfl) (by rw [elC_size]; omega)) <| fun w20 hH21 => ?_
  simp only [z2] at hH21
  rw [elC_put] at hH21
  refine AD <| CW.region <| vm e6_13 <| V (run_add rfl rfl (by omega)) <| aI rfl <| RL.nil <| ?_
  refine ⟨(k + 1, _), ?_, fr13.u4.u4.u4.u1.u1, hH21, (congrArg I (by rfl)), ?_, ?_, ?_⟩
  ·((try dsimp only); omega)
  ·omega
  ·omega
  ·exact meet_putR hr h0
 ·refine CW.exit (id := 0) rfl <| SR <| V (run_ldEl underlying40 rfl rfl e5_13 (hH13.blk (i := 0) rfl)) <| RL.set hH13 (i := 1) rfl (run_stEl rfl e4_13 rfl (hH13.blk (i := 1) rfl)) <| fun w22 hH23 => ?_
  simp only [z2] at hH23
  refine RL.nil <| CW.ret <| outCg Tryz.results45 e4_13 hH23 (i := 1) rfl underlying40 rfl (by rw [elC_size]; rfl) ⟨?_, hH23.below⟩
  (exact congrArg Value.agg (elC_congr (by rw [hr]; exact mix_all ‹_›)))
theorem c_clearancelaw07_Big (s : Shp) (w : World) (hs : ShpV (Kw w) s) : Calls Tryz.prog 5 #[.agg (shpC s)] w (Pure (B (bigS s.sh)) w) := by
 have hsl := sh_len s
 have hm := hs.facs.sl.small
 unfold maxLen at hm
 refine enter Tryz.func5 rfl Tryz.ntmps5 rfl <| have hH := Hp.start w; SR <| RL.new rfl hH (f := fun b => (.pointer (some ⟨b, 0, none⟩))) (run_box (v := .agg _) rfl) <| fun b3 w1 hH2 => va (v := B false) rfl <| RL.nil <| CW.seq <| SR <| V (fA underlying24 1 rfl sizeOf22 rfl) <| V (run_ld underlying22 rfl rfl (hH2.cell (i := 0) rfl rfl)) <| V (run_lenSl (hs.facs.sl.hp hH2) rfl underlying22 rfl) <| V (run_gtr rfl rfl) <| RL.nil <| CW.condP rfl (fun h5 => ?_) (fun h5 => ?_)
 ·refine SR <| va (v := B true) rfl <| RL.nil <| CW.ret <| outP1 Tryz.results5 (congrArg B ?_) hH2.below
  exact (big_1 (s := s.sh) (by omega)).symm
 ·refine CW.skip <| CW.seq <| SR <| va (v := I 0) rfl <| RL.nil <| CW.block <| CW.loop (G := Int) (fun k s' w' => (Fr (rg 2 4 (rg 10 30 [])) _ s') ∧ (Hp w w' _) ∧ (s' 3 = I k) ∧ (0 ≤ k) ∧ (k ≤ s.facs.length) ∧ (∀ j : Int, 0 ≤ j → j < k → bigN (s.facs.getD j.toNat fac0).names = false)) (fun k => (s.facs.length - k).toNat) (0) ⟨Fr.refl _ _, hH2, rfl, (by omega), (by omega), fun j a b => absurd b (by omega)⟩ <| ?_
  rintro k sg6 w6 ⟨fr6, hH6, e3_6, h0, hk, hg⟩
  have e1_6 := fr6.pp 1 rfl rfl
  refine CW.seq <| SR <| vm e3_6 <| V (fA underlying24 1 rfl sizeOf22 e1_6) <| V (run_ld underlying22 rfl rfl (hH6.cell (i := 0) rfl rfl)) <| V (run_lenSl (hs.facs.sl.hp hH6) rfl underlying22 rfl) <| V (run_lss rfl rfl) <| RL.nil <| CW.condP rfl (fun h8 => ?_) (fun h8 => ?_)
  ·refine CW.skip <| CW.seq <| CW.block <| SR <| V (fA underlying24 1 rfl sizeOf22 e1_6) <| V (run_ld underlying22 rfl rfl (hH6.cell (i := 0) rfl rfl)) <| vm e3_6 <| V (run_indexAddrS (hs.facs.sl.hp hH6) underlying22 sizeOf61 rfl rfl (by omega)) <| V (run_ldE (dv := fac0) facL_len (hs.facs.sl.hp hH6) underlying61 rfl rfl rfl (by omega)) <| RL.new rfl hH6 (f := fun b => (.pointer (some ⟨b, 0, none⟩))) (run_alloc zero_fac) <| fun b11 w9 hH10 => RL.set hH10 (i := 0) rfl (run_stFac (hs.at (by omega) (by omega)) rfl rfl rfl (hH10.blk (i := 0) rfl)) <| fun w12 hH13 => ?_
   simp only [z2] at hH13
   refine RL.nil <| CW.seq <| SR <| V (fA underlying61 1 rfl sizeOf56 rfl) <| V (run_ld underlying56 rfl rfl (hH13.cell (i := 0) rfl rfl)) <| V (run_lenSl ((hs.at (by omega) (by omega)).names.sl.hp hH13) rfl underlying56 rfl) <| V (run_gtr rfl rfl) <| RL.nil <| CW.condP rfl (fun h15 => ?_) (fun h15 => ?_)
   ·refine SR <| va (v := B true) rfl <| RL.nil <| CW.ret <| outP1 Tryz.results5 (congrArg B ?_) hH13.below
    exact (big_2 (s := s.sh) (k := k) h0 (by omega) (by rw [sh_get]; (exact bigN_1 (by show 70 < (s.facs.getD k.toNat fac0).names.length; omega)))).symm
   ·refine CW.skip <| SR <| va (v := I 0) rfl <| RL.nil <| CW.block <| have hnb : (s.facs.getD k.toNat fac0).names.length ≤ 70 := (by omega); CW.loop (G := Int) (fun i s' w' => (Fr (2 :: (5 :: (rg 26 14 []))) _ s') ∧ (Hp w w' _) ∧ (s' 5 = I i) ∧ (0 ≤ i) ∧ (i ≤ (s.facs.getD k.toNat fac0).names.length) ∧ (∀ j : Int, 0 ≤ j → j < i → ¬ 40 < ((s.facs.getD k.toNat fac0).names.getD j.toNat tx0).size)) (fun i => ((s.facs.getD k.toNat fac0).names.length - i).toNat) (0) ⟨Fr.refl _ _, hH13, rfl, (by omega), (by omega), fun j a b => absurd b (by omega)⟩ <| ?_
    rintro i sg16 w16 ⟨fr16, hH16, e5_16, i0, i1, hn⟩
    have e3_16 := (fr16 3 rfl).trans e3_6
    have e4_16 := fr16.pp 4 rfl rfl
    refine CW.seq <| SR <| vm e5_16 <| V (fA underlying61 1 rfl sizeOf56 e4_16) <| V (run_ld underlying56 rfl rfl (hH16.cell (i := 0) rfl rfl)) <| V (run_lenSl ((hs.at (by omega) (by omega)).names.sl.hp hH16) rfl underlying56 rfl) <| V (run_lss rfl rfl) <| RL.nil <| CW.condP rfl (fun h18 => ?_) (fun h18 => ?_)
    ·refine CW.skip <| CW.seq <| CW.block <| SR <| V (fA underlying61 1 rfl sizeOf56 e4_16) <| V (run_ld underlying56 rfl rfl (hH16.cell (i := 0) rfl rfl)) <| vm e5_16 <| V (run_indexAddrS ((hs.at (by omega) (by omega)).names.sl.hp hH16) underlying56 sizeOf9 rfl rfl (by omega)) <| V (run_ld underlying9 rfl rfl (((hs.at (by omega) (by omega)).names.sl.hp hH16).cell _ _ (txL_at (by omega)))) <| V (run_lenStr rfl underlying9 rfl) <| V (run_gtr rfl rfl) <| RL.nil <| CW.condP rfl (fun h20 => ?_) (fun h20 => ?_)
     ·refine SR <| va (v := B true) rfl <| RL.nil <| CW.ret <| outP1 Tryz.results5 (congrArg B ?_) hH16.below
      exact (big_2 (s := s.sh) (k := k) h0 (by omega) (by rw [sh_get]; (exact bigN_2 i0 ‹_› (by show 40 < ((s.facs.getD k.toNat fac0).names.getD i.toNat tx0).size; omega)))).symm
     ·refine CW.skip <| CW.region <| vm e5_16 <| V (run_add rfl rfl (by omega)) <| aI rfl <| RL.nil <| ?_
      refine ⟨i + 1, ?_, fr16.u4.u4.u4.u1.u1.u1, hH16, (congrArg I (by rfl)), ?_, ?_, ?_⟩
      ·((try dsimp only); omega)
      ·omega
      ·omega
      ·exact fun j a b => if e : j = i then e ▸ (by omega) else hn j a (by omega)
    ·refine CW.exit (id := 2) rfl <| CW.region <| vm e3_16 <| V (run_add rfl rfl (by omega)) <| aI rfl <| RL.nil <| ?_
     refine ⟨k + 1, ?_, (((fr6.u4.u4.u4.u4).t fr16 rfl)).u4.u4, (hH16.sub (sQ sR)), (congrArg I (by rfl)), ?_, ?_, ?_⟩
     ·((try dsimp only); omega)
     ·omega
     ·omega
     ·exact fun j a b => if e : j = k then e ▸ bigN_no (by omega) ‹¬ i < _› hn else hg j a (by omega)
  ·refine CW.exit (id := 0) rfl <| SR <| va (v := B false) rfl <| RL.nil <| CW.ret <| outP1 Tryz.results5 (congrArg B ?_) hH6.below
   exact (big_no (s := s.sh) (k := k) (by omega) (by omega) fun j a b => by rw [sh_get]; exact hg j a b).symm
theorem c_shape_clone (K : Vu) (f : Fac) (hn : f.names.length ≤ 1000) (w : World) (hK : Le K (Kw w)) (hf : FacV K f) : Calls Tryz.prog 36 #[.agg (facC f)] w (PureF K (fun K' u => ∃ f' : Fac, u = .agg (facC f') ∧ f'.fc = f.fc ∧ FacV K' f') w) := by
 refine enter Tryz.func36 rfl Tryz.ntmps36 rfl <| have hH := Hp.start w; SR <| RL.new rfl hH (f := fun b => (.pointer (some ⟨b, 0, none⟩))) (run_box (v := .agg _) rfl) <| fun b3 w1 hH2 => RL.new rfl hH2 (f := fun b => (.pointer (some ⟨b, 0, none⟩))) (run_alloc zero_fac) <| fun b6 w4 hH5 => RL.nil <| SR <| RL.new rfl hH5 (f := fun b => (.slice (some ⟨b, 0, none⟩) 0 0)) (run_mkE underlying56 sizeOf9) <| fun b9 w7 hH8 => ?_
 (try simp only [clX] at hH8)
 have hH10 := hH8.blkRow 0 1 rfl (by decide)
 refine V (fA underlying61 1 rfl sizeOf56 rfl) <| V (run_ld underlying56 rfl rfl (hH10.cell (i := 2) rfl rfl)) <| RL.app rfl hH10 (i := 0) rfl ((hf.mono hK).names.sl.hp hH10) rfl rfl underlying56 rfl rfl (size := 1) (bytes := 16) rfl rfl rfl (by decide) (by simp [Value.oneCell']) (by omega) (by simp only [maxLen]; omega) <| fun v11 w12 hH13 => ?_
 simp only [z2] at hH13
 refine V (fA underlying61 1 rfl sizeOf56 rfl) <| have hone := (row_cells (hH13.get (i := 0) rfl)).2; RL.set hH13 (i := 2) rfl (run_stFac1 rfl rfl rfl (row_cells (hH13.get (i := 0) rfl)).1 hone (hH13.blk (i := 2) rfl)) <| fun w14 hH15 => ?_
 simp only [z2] at hH15
 refine RL.nil <| SR <| V (run_ldFac underlying61 rfl rfl rfl (hH15.blk (i := 2) rfl)) <| RL.set hH15 (i := 1) rfl (run_stFacO (facC_one2 hf hone) rfl rfl rfl (hH15.blk (i := 1) rfl)) <| fun w16 hH17 => ?_
 simp only [z2] at hH17
 refine RL.nil <| CW.ret <| ?_
 obtain ⟨Zc, hz, hzv, -⟩ := hH17.frz K
 refine outCg Tryz.results36 rfl hH17 (i := 1) rfl underlying61 rfl (by simp only [List.size_toArray, facL_len]; rfl) ⟨Zc, hz.sub (List.sublist_append_left _ _), _, rfl, rfl, ⟨?_⟩⟩
 simpa using hzv
theorem c_shape_Product (K : Vu) (v : Value) (l : List Shp) (hl : l.length ≤ 1000) (hfn : ∀ s ∈ l, s.facs.length ≤ 1000) (hnn : ∀ s ∈ l, ∀ f ∈ s.facs, f.names.length ≤ 1000) (w : World) (hK : Le K (Kw w)) (hs : Sl w v 2 l.length (l.flatMap shpL)) (hv : ShpsV K l) : Calls Tryz.prog 17 #[v] w (PureF K (fun K' u => ∃ p : Shp, u = .agg (shpC p) ∧ p.sh = ⟨true, prodF l⟩ ∧ ShpV K' p) w) := by
 refine enter Tryz.func17 rfl Tryz.ntmps17 rfl <| have hH := Hp.start w; SR <| RL.new rfl hH (f := fun b => (.pointer (some ⟨b, 0, none⟩))) (run_alloc Tryz.zeroValue24) <| fun b3 w1 hH2 => RL.nil <| SR <| V (run_bld (vs := [(0, B true)]) rfl built_shp0) <| RL.new rfl hH2 (f := fun b => (.pointer (some ⟨b, 0, none⟩))) (run_alloc Tryz.zeroValue24) <| fun b6 w4 hH5 => RL.set hH5 (i := 0) rfl (run_stW (c' := #[B true, .slice none 0 0]) rfl rfl rfl (by simp [Value.oneCell']) (hH5.blk (i := 0) rfl) rfl) <| fun w7 hH8 => ?_
 simp only [z2] at hH8
 have hH9 := hH8.nilRow 61 67
 refine RL.nil <| CW.seq <| SR <| ?_
 refine V (run_move (by conv => lhs; whnf)) ?_
 refine V (run_lenSl (hs.hp hH9) rfl underlying80 rfl) <| vm (v := I 0) rfl <| RL.nil <| CW.block <| CW.loop (G := Int × Value × (List Fac) × (List Ent)) (fun ⟨k, fv0, fs, Z⟩ s' w' => (Fr (5 :: (7 :: (rg 11 20 []))) _ s') ∧ (Hp w w' (.row fv0 61 67 (fs.length) (fs.flatMap facL) :: .blk b6 (.cells (#[B true, fv0]) 24 (0, 0)) :: _ :: Z)) ∧ (s' 11 = I k) ∧ (0 ≤ k) ∧ (k ≤ l.length) ∧ (fs.map Fac.fc = prodF (l.take k.toNat)) ∧ (FacsV (Kz K Z) fs) ∧ ((fs.length : Int) ≤ 1000 * k)) (fun ⟨k, fv0, fs, Z⟩ => (l.length - k).toNat) ((0, (.slice none 0 0 : Value), [], [])) ⟨Fr.refl _ _, hH9, rfl, (by omega), (by omega), rfl, FacsV.nil _, (by simp)⟩ <| ?_
 rintro ⟨k, fv0, fs, Z⟩ sg10 w10 ⟨fr10, hH10, e11_10, h0, hk, hm, hF, hb⟩
 have e2_10 := fr10.pp 2 rfl rfl
 have e3_10 := fr10.pp 3 rfl rfl
 have e9_10 := (fr10 9 rfl).trans (by conv => lhs; whnf)
 have e10_10 := fr10.ii 10 rfl rfl
 refine SR <| V (run_lss e11_10 e10_10) <| RL.nil <| CW.seq <| CW.condP rfl (fun h12 => ?_) (fun h12 => ?_)
 ·refine CW.skip <| CW.seq <| CW.block <| SR <| V (run_indexAddrS (hs.hp hH10) underlying80 sizeOf24 e9_10 e11_10 (by omega)) <| V (run_ldE (dv := shp0) shpL_len (hs.hp hH10) underlying24 rfl rfl rfl (by omega)) <| RL.new rfl hH10 (f := fun b => (.pointer (some ⟨b, 0, none⟩))) (run_alloc Tryz.zeroValue24) <| fun b15 w13 hH14 => RL.set hH14 (i := 0) rfl (run_stShp ((hv.mono hK).at (by omega) (by omega)) rfl rfl rfl (hH14.blk (i := 0) rfl) rfl) <| fun w16 hH17 => ?_
  simp only [z2] at hH17
  refine RL.nil <| SR <| V (fA underlying24 1 rfl sizeOf22 rfl) <| V (run_ld underlying22 rfl rfl (hH17.cell (i := 0) rfl rfl)) <| V (run_lenSl (((hv.mono hK).at (by omega) (by omega)).facs.sl.hp hH17) rfl underlying22 rfl) <| vm (v := I 0) rfl <| RL.nil <| CW.block <| have hfk := hfn _ (List.mem_of_getElem? (getD_at (d := shp0) h0 ‹k < l.length›)); CW.loop (G := Int × Value × (List Fac) × (List Ent)) (fun ⟨i, fv1, gs, Z1⟩ s' w' => (Fr (7 :: (rg 18 12 [])) _ s') ∧ (Hp w w' (_ :: .row fv1 61 67 (gs.length) (gs.flatMap facL) :: .blk b6 (.cells (#[B true, fv1]) 24 (0, 0)) :: _ :: Z1)) ∧ (s' 18 = I i) ∧ (0 ≤ i) ∧ (i ≤ (l.getD k.toNat shp0).facs.length) ∧ (gs.map Fac.fc = fs.map Fac.fc ++ ((l.getD k.toNat shp0).facs.take i.toNat).map Fac.fc) ∧ (FacsV (Kz K Z1) gs) ∧ ((gs.length : Int) = fs.length + i)) (fun ⟨i, fv1, gs, Z1⟩ => ((l.getD k.toNat shp0).facs.length - i).toNat) ((0, (fv0 : Value), fs, Z)) ⟨Fr.refl _ _, hH17, rfl, (by omega), (by omega), (by simp), hF, (by simp)⟩ <| ?_
  rintro ⟨i, fv1, gs, Z1⟩ sg18 w18 ⟨fr18, hH18, e18_18, i0, ik, hm1, hF1, hb1⟩
  have e3_18 := (fr18 3 rfl).trans e3_10
  have e11_18 := (fr18 11 rfl).trans e11_10
  have e16_18 := (fr18 16 rfl).trans (by conv => lhs; whnf)
  have e17_18 := fr18.ii 17 rfl rfl
  refine SR <| V (run_lss e18_18 e17_18) <| RL.nil <| CW.seq <| CW.condP rfl (fun h20 => ?_) (fun h20 => ?_)
  ·refine CW.skip <| CW.seq <| CW.block <| SR <| V (run_indexAddrS (((hv.mono hK).at (by omega) (by omega)).facs.sl.hp hH18) underlying22 sizeOf61 e16_18 e18_18 (by omega)) <| V (run_ldE (dv := fac0) facL_len (((hv.mono hK).at (by omega) (by omega)).facs.sl.hp hH18) underlying61 rfl rfl rfl (by omega)) <| RL.new rfl hH18 (f := fun b => (.pointer (some ⟨b, 0, none⟩))) (run_alloc zero_fac) <| fun b23 w21 hH22 => RL.set hH22 (i := 0) rfl (run_stFac (((hv.mono hK).at (by omega) (by omega)).at (by omega) (by omega)) rfl rfl rfl (hH22.blk (i := 0) rfl)) <| fun w24 hH25 => ?_
   simp only [z2] at hH25
   refine RL.nil <| CW.regionS (by kernel_rfl) hH25 (sP (sP (sQ (sQ sR)))) <| fun w26 hH27 => AQ 0 rfl (hH27.sub (sP (sP (sQ (sQ sR))))) (fA underlying24 1 rfl sizeOf22 e3_18) <| AT 2 rfl (hH27.sub (sP (sP (sQ (sQ sR))))) (fun w hS => run_ldFac underlying61 rfl rfl rfl (hS.blk (i := 0) rfl)) <| AN.two 1 3 (by kernel_rfl) ?_ ?_
   ·refine AO.read rfl gnone rfl hH27 (sP (sP (sQ (sQ sR)))) (run_ld underlying22 rfl rfl (hH27.cell (i := 3) rfl rfl)) <| A1 3 <| AO.callF rfl gnone rfl hH27 (sP (sP (sQ (sQ sR)))) (c_shape_clone K ((l.getD k.toNat shp0).facs.getD i.toNat fac0) (hnn _ (List.mem_of_getElem? (getD_at (d := shp0) h0 ‹k < l.length›)) _ (List.mem_of_getElem? (getD_at (d := fac0) i0 ‹_›))) _ (hK.trans hH27.kw) ((hv.at h0 ‹_›).at i0 ‹_›)) (run_call1 call36 rfl) <| fun v32 w33 Z35 hH34 hp36 => have hH37 : Hp _ w33 (_ :: _ :: _ :: _ :: _ :: (Z35 ++ Z1)) := hH34.zin (L := [_, _, _, _, _]) (L' := Z1); ?_
    obtain ⟨f38, rfl, hfc39, hfv40⟩ := hp36
    refine A1 4 <| AO.new rfl gnone rfl hH37 (sP (sP (sQ (sQ (sP (sA sR)))))) (f := fun b => .slice (some ⟨b, 0, none⟩) 1 1) (run_mkFacs underlying22 rfl rfl rfl (l := [_]) rfl (by decide) (by decide) rfl) <| fun b43 w41 hH42 => A1 5 <| AO.app rfl gnone rfl hH42 (j := 3) rfl (fun _ => (sQ (sP (sP (sQ (sQ (sP (sA sR)))))))) (Hp.slFlat facL_len hH42 (i := 0) (l := [_]) rfl (by simp [maxLen])) rfl rfl underlying22 rfl rfl (size := 67) (bytes := 552) rfl rfl rfl (by decide) (fac1_one hfv40) (by show (gs.length + 1) * _ ≤ _; omega) (by show gs.length + 1 ≤ _; simp only [maxLen]; omega) <| fun v46 w44 hH45 => ?_
    simp only [z2] at hH45
    refine AQ 6 rfl (hH45.sub (sQ (sP (sP (sQ (sQ (sP (sA sR)))))))) (fA underlying24 1 rfl sizeOf22 e3_18) <| A1 7 <| AO.set rfl gnone hH45 (j := 4) rfl (sQ (sP (sP (sQ (sQ (sP (sA sR))))))) (run_st rfl rfl (v := v46) rfl (row_cells (hH45.get (i := 3) rfl)).1 (row_cells (hH45.get (i := 3) rfl)).2 (hH45.blk (i := 4) rfl) (by simp)) <| fun w49 hH50 => ?_
    simp only [z2] at hH50
    refine AD <| CW.region <| V (run_add e18_18 rfl (by omega)) <| mI rfl <| RL.nil <| ?_
    refine ⟨(i + 1, v46, (gs ++ [f38]), (Z35 ++ Z1)), ?_, fr18.u4.u4.u4.u1, (Hp.conv (hH50.sub (sQ (sQ sR))) (by simp)), (congrArg I (by rfl)), ?_, ?_, ?_, ?_, ?_⟩
    ·((try dsimp only); omega)
    ·omega
    ·omega
    ·rw [facs_next i0 ‹_›, List.map_append, hm1, List.append_assoc]; simp only [List.map_cons, List.map_nil]; rw [hfc39]
    ·exact (hF1.mono (Le.zz fun y hy => List.mem_append_right _ hy)).snoc (hfv40.mono (Le.zz fun y hy => List.mem_append_left _ hy))
    ·simp only [List.length_append, List.length_singleton]; omega
   ·refine AO.callF rfl gnone rfl hH27 (sP (sP (sQ (sQ sR)))) (c_shape_clone K ((l.getD k.toNat shp0).facs.getD i.toNat fac0) (hnn _ (List.mem_of_getElem? (getD_at (d := shp0) h0 ‹k < l.length›)) _ (List.mem_of_getElem? (getD_at (d := fac0) i0 ‹_›))) _ (hK.trans hH27.kw) ((hv.at h0 ‹_›).at i0 ‹_›)) (run_call1 call36 rfl) <| fun v53 w54 Z56 hH55 hp57 => have hH58 : Hp _ w54 (_ :: _ :: _ :: _ :: _ :: (Z56 ++ Z1)) := hH55.zin (L := [_, _, _, _, _]) (L' := Z1); ?_
    obtain ⟨f59, rfl, hfc60, hfv61⟩ := hp57
    refine AN.two 1 4 (by kernel_rfl) ?_ ?_
    ·refine AO.read rfl gnone rfl hH58 (sP (sP (sQ (sQ (sP (sA sR)))))) (run_ld underlying22 rfl rfl (hH58.cell (i := 3) rfl rfl)) <| A1 4 <| AO.new rfl gnone rfl hH58 (sP (sP (sQ (sQ (sP (sA sR)))))) (f := fun b => .slice (some ⟨b, 0, none⟩) 1 1) (run_mkFacs underlying22 rfl rfl rfl (l := [_]) rfl (by decide) (by decide) rfl) <| fun b66 w64 hH65 => A1 5 <| AO.app rfl gnone rfl hH65 (j := 3) rfl (fun _ => (sQ (sP (sP (sQ (sQ (sP (sA sR)))))))) (Hp.slFlat facL_len hH65 (i := 0) (l := [_]) rfl (by simp [maxLen])) rfl rfl underlying22 rfl rfl (size := 67) (bytes := 552) rfl rfl rfl (by decide) (fac1_one hfv61) (by show (gs.length + 1) * _ ≤ _; omega) (by show gs.length + 1 ≤ _; simp only [maxLen]; omega) <| fun v69 w67 hH68 => ?_
     simp only [z2] at hH68
     refine AQ 6 rfl (hH68.sub (sQ (sP (sP (sQ (sQ (sP (sA sR)))))))) (fA underlying24 1 rfl sizeOf22 e3_18) <| A1 7 <| AO.set rfl gnone hH68 (j := 4) rfl (sQ (sP (sP (sQ (sQ (sP (sA sR))))))) (run_st rfl rfl (v := v69) rfl (row_cells (hH68.get (i := 3) rfl)).1 (row_cells (hH68.get (i := 3) rfl)).2 (hH68.blk (i := 4) rfl) (by simp)) <| fun w72 hH73 => ?_
     simp only [z2] at hH73
     refine AD <| CW.region <| V (run_add e18_18 rfl (by omega)) <| mI rfl <| RL.nil <| ?_
     refine ⟨(i + 1, v69, (gs ++ [f59]), (Z56 ++ Z1)), ?_, fr18.u4.u4.u4.u1, (Hp.conv (hH73.sub (sQ (sQ sR))) (by simp)), (congrArg I (by rfl)), ?_, ?_, ?_, ?_, ?_⟩
     ·((try dsimp only); omega)
     ·omega
     ·omega
     ·rw [facs_next i0 ‹_›, List.map_append, hm1, List.append_assoc]; simp only [List.map_cons, List.map_nil]; rw [hfc60]
     ·exact (hF1.mono (Le.zz fun y hy => List.mem_append_right _ hy)).snoc (hfv61.mono (Le.zz fun y hy => List.mem_append_left _ hy))
     ·simp only [List.length_append, List.length_singleton]; omega
    ·refine AO.new rfl gnone rfl hH58 (sP (sP (sQ (sQ (sP (sA sR)))))) (f := fun b => .slice (some ⟨b, 0, none⟩) 1 1) (run_mkFacs underlying22 rfl rfl rfl (l := [_]) rfl (by decide) (by decide) rfl) <| fun b76 w74 hH75 => A1 1 <| AO.read rfl gnone rfl hH75 (sQ (sP (sP (sQ (sQ (sP (sA sR))))))) (run_ld underlying22 rfl rfl (hH75.cell (i := 4) rfl rfl)) <| A1 5 <| AO.app rfl gnone rfl hH75 (j := 3) rfl (fun _ => (sQ (sP (sP (sQ (sQ (sP (sA sR)))))))) (Hp.slFlat facL_len hH75 (i := 0) (l := [_]) rfl (by simp [maxLen])) rfl rfl underlying22 rfl rfl (size := 67) (bytes := 552) rfl rfl rfl (by decide) (fac1_one hfv61) (by show (gs.length + 1) * _ ≤ _; omega) (by show gs.length + 1 ≤ _; simp only [maxLen]; omega) <| fun v81 w79 hH80 => ?_
     simp only [z2] at hH80
     refine AQ 6 rfl (hH80.sub (sQ (sP (sP (sQ (sQ (sP (sA sR)))))))) (fA underlying24 1 rfl sizeOf22 e3_18) <| A1 7 <| AO.set rfl gnone hH80 (j := 4) rfl (sQ (sP (sP (sQ (sQ (sP (sA sR))))))) (run_st rfl rfl (v := v81) rfl (row_cells (hH80.get (i := 3) rfl)).1 (row_cells (hH80.get (i := 3) rfl)).2 (hH80.blk (i := 4) rfl) (by simp)) <| fun w84 hH85 => ?_
     simp only [z2] at hH85
     refine AD <| CW.region <| V (run_add e18_18 rfl (by omega)) <| mI rfl <| RL.nil <| ?_
     refine ⟨(i + 1, v81, (gs ++ [f59]), (Z56 ++ Z1)), ?_, fr18.u4.u4.u4.u1, (Hp.conv (hH85.sub (sQ (sQ sR))) (by simp)), (congrArg I (by rfl)), ?_, ?_, ?_, ?_, ?_⟩
     ·((try dsimp only); omega)
     ·omega
     ·omega
     ·rw [facs_next i0 ‹_›, List.map_append, hm1, List.append_assoc]; simp only [List.map_cons, List.map_nil]; rw [hfc60]
     ·exact (hF1.mono (Le.zz fun y hy => List.mem_append_right _ hy)).snoc (hfv61.mono (Le.zz fun y hy => List.mem_append_left _ hy))
     ·simp only [List.length_append, List.length_singleton]; omega
  ·refine CW.exit (id := 2) rfl <| CW.region <| V (run_add e11_18 rfl (by omega)) <| mI rfl <| RL.nil <| ?_
   refine ⟨(k + 1, fv1, gs, Z1), ?_, (((fr10.u4.u4).t fr18 rfl)).u1.u1.u1, (Hp.conv (hH18.sub (sQ sR)) (by rfl)), (congrArg I (by rfl)), ?_, ?_, ?_, ?_, ?_⟩
   ·((try dsimp only); omega)
   ·omega
   ·omega
   ·rw [prod_next h0 ‹_›, ← hm, hm1, List.take_of_length_le (by omega)]; rfl
   ·exact hF1
   ·omega
 ·refine CW.exit (id := 0) rfl <| SR <| V (run_ldA (cs := [B _, _]) underlying24 rfl rfl e3_10 (rangeAt_cells (hH10.blk (i := 1) rfl))) <| RL.set hH10 (i := 2) rfl (run_stW (c' := #[B true, fv0]) rfl e2_10 rfl (one_two (row_cells (hH10.get (i := 0) rfl)).2) (hH10.blk (i := 2) rfl) rfl) <| fun w86 hH87 => ?_
  simp only [z2] at hH87
  refine RL.nil <| CW.ret <| ?_
  obtain ⟨Zr, hz, hzv, -⟩ := hH87.frz K
  refine outCg (i := Zr.length + 1) Tryz.results17 e2_10 hz (app_get (i := 1) rfl) underlying24 rfl rfl ⟨Zr ++ Z, hz.sub (List.Sublist.append (.refl _) (sQ (sQ (.refl _)))), ⟨true, fv0, fs⟩, rfl, ?_, ?_, ?_⟩
  ·rw [Shp.sh, hm, prod_all ‹_›]
  ·exact hzv.mono (Le.zz fun y hy => List.mem_append_left _ hy)
  ·exact (hF.mono (Le.zz fun y hy => List.mem_append_right _ hy)).each
theorem c_code_Right (v : Value) (l : List InsR) (w : World) (hs : Sl w v 10 l.length (l.flatMap insL)) : Calls Tryz.prog 37 #[v] w (Pure (B (rightC l)) w) := by
 have hm := hs.small
 unfold maxLen at hm
 refine enter Tryz.func37 rfl Tryz.ntmps37 rfl <| have hH := Hp.start w; SR <| va (v := B false) rfl <| RL.nil <| SR <| va (v := I 0) rfl <| RL.nil <| CW.seq <| SR <| ?_
 refine V (run_move (by conv => lhs; whnf)) ?_
 refine V (run_lenSl (hs.hp hH) rfl underlying36 rfl) <| vm (v := I 0) rfl <| RL.nil <| CW.block <| CW.loop (G := Int × Int) (fun ⟨k, d⟩ s' w' => (Fr (2 :: 3 :: (5 :: (rg 8 29 []))) _ s') ∧ (Hp w w' _) ∧ (s' 3 = I d) ∧ (s' 8 = I k) ∧ (0 ≤ k) ∧ (k ≤ l.length) ∧ (deepTo l k = some d)) (fun ⟨k, d⟩ => (l.length - k).toNat) ((0, 0)) ⟨Fr.refl _ _, hH, rfl, rfl, (by omega), (by omega), deep_zero l⟩ <| ?_
 rintro ⟨k, d⟩ sg1 w1 ⟨fr1, hH1, e3_1, e8_1, h0, hk, hd⟩
 have e6_1 := (fr1 6 rfl).trans (by conv => lhs; whnf)
 have e7_1 := fr1.ii 7 rfl rfl
 have hdb := deep_bd h0 hk hd
 refine SR <| V (run_lss e8_1 e7_1) <| RL.nil <| CW.seq <| CW.condP rfl (fun h3 => ?_) (fun h3 => ?_)
 ·refine CW.skip <| CW.seq <| CW.block <| SR <| V (run_indexAddrS (hs.hp hH1) underlying36 sizeOf84 e6_1 e8_1 (by omega)) <| V (run_ldE (dv := ins0) insL_len (hs.hp hH1) underlying84 rfl rfl rfl (by omega)) <| RL.new rfl hH1 (f := fun b => (.pointer (some ⟨b, 0, none⟩))) (run_alloc zero_ins) <| fun b6 w4 hH5 => RL.set hH5 (i := 0) rfl (run_stW (c' := (insL _).toArray) rfl rfl rfl (insL_one _) (hH5.blk (i := 0) rfl) rfl) <| fun w7 hH8 => ?_
  simp only [z2] at hH8
  refine RL.nil <| SR <| V (fA underlying84 0 rfl sizeOf3 rfl) <| V (run_ld underlying3 rfl rfl (hH8.cell (i := 0) rfl (v := I _) rfl)) <| RL.nil <| CW.block <| CW.seq <| SR <| V (run_eql rfl rfl) <| aB rfl <| RL.nil <| CW.condP rfl (fun h10 => ?_) (fun h10 => ?_)
  ·refine CW.skip <| CW.condT (bT h10) <| CW.region <| vm e3_1 <| V (run_add rfl rfl (by omega)) <| aI rfl <| RL.nil <| CW.region <| V (run_add e8_1 rfl (by omega)) <| mI rfl <| RL.nil <| ?_
   refine ⟨(k + 1, d + 1), ?_, fr1.u4.u4.u4.u1, (hH8.sub (sQ sR)), (congrArg I (by rfl)), (congrArg I (by rfl)), ?_, ?_, ?_⟩
   ·((try dsimp only); omega)
   ·omega
   ·omega
   ·rw [deep_next h0 ‹k < _›, hd]; exact st_push (.inl ‹_›)
  ·refine CW.region <| V (run_eql rfl rfl) <| aB rfl <| RL.nil <| CW.condP rfl (fun h12 => ?_) (fun h12 => ?_)
   ·refine CW.region <| vm e3_1 <| V (run_add rfl rfl (by omega)) <| aI rfl <| RL.nil <| CW.region <| V (run_add e8_1 rfl (by omega)) <| mI rfl <| RL.nil <| ?_
    refine ⟨(k + 1, d + 1), ?_, fr1.u4.u4.u4.u1.u1.u1, (hH8.sub (sQ sR)), (congrArg I (by rfl)), (congrArg I (by rfl)), ?_, ?_, ?_⟩
    ·((try dsimp only); omega)
    ·omega
    ·omega
    ·rw [deep_next h0 ‹k < _›, hd]; exact st_push (.inr ‹_›)
   ·refine CW.seq <| SR <| V (run_eql rfl rfl) <| aB rfl <| RL.nil <| CW.condP rfl (fun h14 => ?_) (fun h14 => ?_)
    ·refine CW.skip <| CW.condT (bT h14) <| CW.seq <| SR <| V (fA underlying84 1 rfl sizeOf3 rfl) <| V (run_ld underlying3 rfl rfl (hH8.cell (i := 0) rfl (v := I _) rfl)) <| V (run_lss rfl rfl) <| mB rfl <| RL.splitP (dj := 25) rfl (fun h16 => ?_) (fun h16 => ?_)
     ·refine gF rfl (bT h16) <| gF rfl (bT h16) <| gF rfl (bT h16) <| gF rfl (bT h16) <| V (run_pickT (bT h16) (v := B true) rfl) <| RL.nil <| CW.condT rfl <| SR <| va (v := B false) rfl <| RL.nil <| CW.ret <| outP1 Tryz.results37 (congrArg B ?_) hH8.below
      exact (rc_no h0 ‹k < _› hd (st_bad (by omega) (by omega))).symm
     ·refine gT rfl (bF h16) <| V (fA underlying84 1 rfl sizeOf3 rfl) <| gT rfl (bF h16) <| V (run_ld underlying3 rfl rfl (hH8.cell (i := 0) rfl (v := I _) rfl)) <| gT rfl (bF h16) <| vm e3_1 <| gT rfl (bF h16) <| V (run_gtr rfl rfl) <| V (run_pickF (bF h16) (v := B _) rfl) <| RL.nil <| CW.condP rfl (fun h18 => ?_) (fun h18 => ?_)
      ·refine SR <| va (v := B false) rfl <| RL.nil <| CW.ret <| outP1 Tryz.results37 (congrArg B ?_) hH8.below
       exact (rc_no h0 ‹k < _› hd (st_bad (by omega) (by omega))).symm
      ·refine CW.skip <| CW.region <| vm e3_1 <| V (fA underlying84 1 rfl sizeOf3 rfl) <| V (run_ld underlying3 rfl rfl (hH8.cell (i := 0) rfl (v := I _) rfl)) <| V (run_sub rfl rfl (by omega)) <| V (run_sub rfl rfl (by omega)) <| aI rfl <| RL.nil <| CW.region <| V (run_add e8_1 rfl (by omega)) <| mI rfl <| RL.nil <| ?_
       refine ⟨(k + 1, d - (l.getD k.toNat ins0).n + 1), ?_, fr1.u4.u4.u4.u4.u4.u4.u4.u1, (hH8.sub (sQ sR)), (congrArg I (by omega)), (congrArg I (by rfl)), ?_, ?_, ?_⟩
       ·((try dsimp only); omega)
       ·omega
       ·omega
       ·rw [deep_next h0 ‹k < _›, hd]; exact st_pop (by omega) (by omega) (by omega)
    ·refine CW.region <| V (run_eql rfl rfl) <| aB rfl <| RL.nil <| CW.condP rfl (fun h20 => ?_) (fun h20 => ?_)
     ·refine CW.seq <| SR <| V (fA underlying84 1 rfl sizeOf3 rfl) <| V (run_ld underlying3 rfl rfl (hH8.cell (i := 0) rfl (v := I _) rfl)) <| V (run_lss rfl rfl) <| mB rfl <| RL.splitP (dj := 25) rfl (fun h22 => ?_) (fun h22 => ?_)
      ·refine gF rfl (bT h22) <| gF rfl (bT h22) <| gF rfl (bT h22) <| gF rfl (bT h22) <| V (run_pickT (bT h22) (v := B true) rfl) <| RL.nil <| CW.condT rfl <| SR <| va (v := B false) rfl <| RL.nil <| CW.ret <| outP1 Tryz.results37 (congrArg B ?_) hH8.below
       exact (rc_no h0 ‹k < _› hd (st_bad (by omega) (by omega))).symm
      ·refine gT rfl (bF h22) <| V (fA underlying84 1 rfl sizeOf3 rfl) <| gT rfl (bF h22) <| V (run_ld underlying3 rfl rfl (hH8.cell (i := 0) rfl (v := I _) rfl)) <| gT rfl (bF h22) <| vm e3_1 <| gT rfl (bF h22) <| V (run_gtr rfl rfl) <| V (run_pickF (bF h22) (v := B _) rfl) <| RL.nil <| CW.condP rfl (fun h24 => ?_) (fun h24 => ?_)
       ·refine SR <| va (v := B false) rfl <| RL.nil <| CW.ret <| outP1 Tryz.results37 (congrArg B ?_) hH8.below
        exact (rc_no h0 ‹k < _› hd (st_bad (by omega) (by omega))).symm
       ·refine CW.skip <| CW.region <| vm e3_1 <| V (fA underlying84 1 rfl sizeOf3 rfl) <| V (run_ld underlying3 rfl rfl (hH8.cell (i := 0) rfl (v := I _) rfl)) <| V (run_sub rfl rfl (by omega)) <| V (run_sub rfl rfl (by omega)) <| aI rfl <| RL.nil <| CW.region <| V (run_add e8_1 rfl (by omega)) <| mI rfl <| RL.nil <| ?_
        refine ⟨(k + 1, d - (l.getD k.toNat ins0).n + 1), ?_, fr1.u4.u4.u4.u4.u4.u4.u4.u1.u1.u1, (hH8.sub (sQ sR)), (congrArg I (by omega)), (congrArg I (by rfl)), ?_, ?_, ?_⟩
        ·((try dsimp only); omega)
        ·omega
        ·omega
        ·rw [deep_next h0 ‹k < _›, hd]; exact st_pop (by omega) (by omega) (by omega)
     ·refine SR <| va (v := B false) rfl <| RL.nil <| CW.ret <| outP1 Tryz.results37 (congrArg B ?_) hH8.below
      exact (rc_no h0 ‹k < _› hd (st_none (by omega) (by omega))).symm
 ·refine CW.exit (id := 0) rfl <| SR <| vm e3_1 <| V (run_eql rfl rfl) <| aB rfl <| RL.nil <| CW.ret <| outP1 Tryz.results37 (congrArg B ?_) hH1.below
  exact (rc_end hk ‹¬ k < _› hd).symm
theorem c_clearanceref14_Right (v : Value) (l : List InsR) (w : World) (hs : Sl w v 10 l.length (l.flatMap insL)) : Calls Tryz.prog 44 #[v] w (Pure (B (rightC l)) w) := by
 have hm := hs.small
 unfold maxLen at hm
 refine enter Tryz.func44 rfl Tryz.ntmps44 rfl <| have hH := Hp.start w; SR <| va (v := B false) rfl <| RL.nil <| SR <| va (v := I 0) rfl <| RL.nil <| CW.seq <| SR <| va (v := I 0) rfl <| RL.nil <| CW.block <| CW.loop (G := Int × Int) (fun ⟨k, d⟩ s' w' => (Fr (rg 2 45 []) _ s') ∧ (Hp w w' _) ∧ (s' 3 = I d) ∧ (s' 4 = I k) ∧ (0 ≤ k) ∧ (k ≤ l.length) ∧ (deepTo l k = some d)) (fun ⟨k, d⟩ => (l.length - k).toNat) ((0, 0)) ⟨Fr.refl _ _, hH, rfl, rfl, (by omega), (by omega), deep_zero l⟩ <| ?_
 rintro ⟨k, d⟩ sg1 w1 ⟨fr1, hH1, e3_1, e4_1, h0, hk, hd⟩
 have e0_1 := (fr1 0 rfl).trans (by conv => lhs; whnf)
 have hdb := deep_bd h0 hk hd
 refine CW.seq <| SR <| vm e4_1 <| vm e0_1 <| V (run_lenSl (hs.hp hH1) rfl underlying36 rfl) <| V (run_lss rfl rfl) <| RL.nil <| CW.condP rfl (fun h3 => ?_) (fun h3 => ?_)
 ·refine CW.skip <| CW.seq <| CW.block <| SR <| vm e0_1 <| vm e4_1 <| V (run_indexAddrS (hs.hp hH1) underlying36 sizeOf84 rfl rfl (by omega)) <| V (fA underlying84 0 rfl sizeOf3 rfl) <| V (run_ldE1 (dv := ins0) (off := 0) insL_len (hs.hp hH1) underlying3 rfl rfl (by omega) rfl) <| RL.nil <| CW.block <| CW.seq <| SR <| V (run_eql rfl rfl) <| aB rfl <| RL.nil <| CW.condP rfl (fun h5 => ?_) (fun h5 => ?_)
  ·refine CW.skip <| CW.condT (bT h5) <| CW.region <| vm e3_1 <| V (run_add rfl rfl (by omega)) <| aI rfl <| RL.nil <| CW.region <| vm e4_1 <| V (run_add rfl rfl (by omega)) <| aI rfl <| RL.nil <| ?_
   refine ⟨(k + 1, d + 1), ?_, fr1.u4.u4.u4.u4.u1, hH1, (congrArg I (by rfl)), (congrArg I (by rfl)), ?_, ?_, ?_⟩
   ·((try dsimp only); omega)
   ·omega
   ·omega
   ·rw [deep_next h0 ‹k < _›, hd]; exact st_push (.inl ‹_›)
  ·refine CW.region <| V (run_eql rfl rfl) <| aB rfl <| RL.nil <| CW.condP rfl (fun h7 => ?_) (fun h7 => ?_)
   ·refine CW.region <| vm e3_1 <| V (run_add rfl rfl (by omega)) <| aI rfl <| RL.nil <| CW.region <| vm e4_1 <| V (run_add rfl rfl (by omega)) <| aI rfl <| RL.nil <| ?_
    refine ⟨(k + 1, d + 1), ?_, fr1.u4.u4.u4.u4.u1.u1.u1, hH1, (congrArg I (by rfl)), (congrArg I (by rfl)), ?_, ?_, ?_⟩
    ·((try dsimp only); omega)
    ·omega
    ·omega
    ·rw [deep_next h0 ‹k < _›, hd]; exact st_push (.inr ‹_›)
   ·refine CW.seq <| SR <| V (run_eql rfl rfl) <| aB rfl <| RL.nil <| CW.condP rfl (fun h9 => ?_) (fun h9 => ?_)
    ·refine CW.skip <| CW.condT (bT h9) <| CW.seq <| SR <| vm e0_1 <| vm e4_1 <| V (run_indexAddrS (hs.hp hH1) underlying36 sizeOf84 rfl rfl (by omega)) <| V (fA underlying84 1 rfl sizeOf3 rfl) <| V (run_ldE1 (dv := ins0) (off := 1) insL_len (hs.hp hH1) underlying3 rfl rfl (by omega) rfl) <| V (run_lss rfl rfl) <| mB rfl <| RL.splitP (dj := 30) rfl (fun h11 => ?_) (fun h11 => ?_)
     ·refine gF rfl (bT h11) <| gF rfl (bT h11) <| gF rfl (bT h11) <| gF rfl (bT h11) <| gF rfl (bT h11) <| gF rfl (bT h11) <| gF rfl (bT h11) <| V (run_pickT (bT h11) (v := B true) rfl) <| RL.nil <| CW.condT rfl <| SR <| va (v := B false) rfl <| RL.nil <| CW.ret <| outP1 Tryz.results44 (congrArg B ?_) hH1.below
      exact (rc_no h0 ‹k < _› hd (st_bad (by omega) (by omega))).symm
     ·refine gT rfl (bF h11) <| vm e0_1 <| gT rfl (bF h11) <| vm e4_1 <| gT rfl (bF h11) <| V (run_indexAddrS (hs.hp hH1) underlying36 sizeOf84 rfl rfl (by omega)) <| gT rfl (bF h11) <| V (fA underlying84 1 rfl sizeOf3 rfl) <| gT rfl (bF h11) <| V (run_ldE1 (dv := ins0) (off := 1) insL_len (hs.hp hH1) underlying3 rfl rfl (by omega) rfl) <| gT rfl (bF h11) <| vm e3_1 <| gT rfl (bF h11) <| V (run_gtr rfl rfl) <| V (run_pickF (bF h11) (v := B _) rfl) <| RL.nil <| CW.condP rfl (fun h13 => ?_) (fun h13 => ?_)
      ·refine SR <| va (v := B false) rfl <| RL.nil <| CW.ret <| outP1 Tryz.results44 (congrArg B ?_) hH1.below
       exact (rc_no h0 ‹k < _› hd (st_bad (by omega) (by omega))).symm
      ·refine CW.skip <| CW.region <| vm e3_1 <| vm e0_1 <| vm e4_1 <| V (run_indexAddrS (hs.hp hH1) underlying36 sizeOf84 rfl rfl (by omega)) <| V (fA underlying84 1 rfl sizeOf3 rfl) <| V (run_ldE1 (dv := ins0) (off := 1) insL_len (hs.hp hH1) underlying3 rfl rfl (by omega) rfl) <| V (run_sub rfl rfl (by omega)) <| V (run_add rfl rfl (by omega)) <| aI rfl <| RL.nil <| CW.region <| vm e4_1 <| V (run_add rfl rfl (by omega)) <| aI rfl <| RL.nil <| ?_
       refine ⟨(k + 1, d - (l.getD k.toNat ins0).n + 1), ?_, fr1.u4.u4.u4.u4.u4.u4.u4.u4.u4.u4.u1.u1, hH1, (congrArg I (by rfl)), (congrArg I (by rfl)), ?_, ?_, ?_⟩
       ·((try dsimp only); omega)
       ·omega
       ·omega
       ·rw [deep_next h0 ‹k < _›, hd]; exact st_pop (by omega) (by omega) (by omega)
    ·refine CW.region <| V (run_eql rfl rfl) <| aB rfl <| RL.nil <| CW.condP rfl (fun h15 => ?_) (fun h15 => ?_)
     ·refine CW.seq <| SR <| vm e0_1 <| vm e4_1 <| V (run_indexAddrS (hs.hp hH1) underlying36 sizeOf84 rfl rfl (by omega)) <| V (fA underlying84 1 rfl sizeOf3 rfl) <| V (run_ldE1 (dv := ins0) (off := 1) insL_len (hs.hp hH1) underlying3 rfl rfl (by omega) rfl) <| V (run_lss rfl rfl) <| mB rfl <| RL.splitP (dj := 30) rfl (fun h17 => ?_) (fun h17 => ?_)
      ·refine gF rfl (bT h17) <| gF rfl (bT h17) <| gF rfl (bT h17) <| gF rfl (bT h17) <| gF rfl (bT h17) <| gF rfl (bT h17) <| gF rfl (bT h17) <| V (run_pickT (bT h17) (v := B true) rfl) <| RL.nil <| CW.condT rfl <| SR <| va (v := B false) rfl <| RL.nil <| CW.ret <| outP1 Tryz.results44 (congrArg B ?_) hH1.below
       exact (rc_no h0 ‹k < _› hd (st_bad (by omega) (by omega))).symm
      ·refine gT rfl (bF h17) <| vm e0_1 <| gT rfl (bF h17) <| vm e4_1 <| gT rfl (bF h17) <| V (run_indexAddrS (hs.hp hH1) underlying36 sizeOf84 rfl rfl (by omega)) <| gT rfl (bF h17) <| V (fA underlying84 1 rfl sizeOf3 rfl) <| gT rfl (bF h17) <| V (run_ldE1 (dv := ins0) (off := 1) insL_len (hs.hp hH1) underlying3 rfl rfl (by omega) rfl) <| gT rfl (bF h17) <| vm e3_1 <| gT rfl (bF h17) <| V (run_gtr rfl rfl) <| V (run_pickF (bF h17) (v := B _) rfl) <| RL.nil <| CW.condP rfl (fun h19 => ?_) (fun h19 => ?_)
       ·refine SR <| va (v := B false) rfl <| RL.nil <| CW.ret <| outP1 Tryz.results44 (congrArg B ?_) hH1.below
        exact (rc_no h0 ‹k < _› hd (st_bad (by omega) (by omega))).symm
       ·refine CW.skip <| CW.region <| vm e3_1 <| vm e0_1 <| vm e4_1 <| V (run_indexAddrS (hs.hp hH1) underlying36 sizeOf84 rfl rfl (by omega)) <| V (fA underlying84 1 rfl sizeOf3 rfl) <| V (run_ldE1 (dv := ins0) (off := 1) insL_len (hs.hp hH1) underlying3 rfl rfl (by omega) rfl) <| V (run_sub rfl rfl (by omega)) <| V (run_add rfl rfl (by omega)) <| aI rfl <| RL.nil <| CW.region <| vm e4_1 <| V (run_add rfl rfl (by omega)) <| aI rfl <| RL.nil <| ?_
        refine ⟨(k + 1, d - (l.getD k.toNat ins0).n + 1), ?_, fr1.u4.u4.u4.u4.u4.u4.u4.u4.u4.u4.u4, hH1, (congrArg I (by rfl)), (congrArg I (by rfl)), ?_, ?_, ?_⟩
        ·((try dsimp only); omega)
        ·omega
        ·omega
        ·rw [deep_next h0 ‹k < _›, hd]; exact st_pop (by omega) (by omega) (by omega)
     ·refine SR <| va (v := B false) rfl <| RL.nil <| CW.ret <| outP1 Tryz.results44 (congrArg B ?_) hH1.below
      exact (rc_no h0 ‹k < _› hd (st_none (by omega) (by omega))).symm
 ·refine CW.exit (id := 0) rfl <| SR <| vm e3_1 <| V (run_eql rfl rfl) <| aB rfl <| RL.nil <| CW.ret <| outP1 Tryz.results44 (congrArg B ?_) hH1.below
  exact (rc_end hk ‹¬ k < _› hd).symm
theorem c_code_fold (s : Shp) (op : Int) (v : Value) (l : List El) (hne : 1 ≤ l.length) (w : World) (hs : Sl w v 8 l.length (l.flatMap elL)) (hsh : ShpV (Kw w) s) (hT : Tab w) : Calls Tryz.prog 38 #[.agg (shpC s), I op, v] w (Pure (.agg (elC (foldE (opE s.sh op) l))) w) := by
 have hm := hs.small
 unfold maxLen at hm
 refine enter Tryz.func38 rfl Tryz.ntmps38 rfl <| have hH := Hp.start w; SR <| RL.new rfl hH (f := fun b => (.pointer (some ⟨b, 0, none⟩))) (run_box (v := .agg _) rfl) <| fun b3 w1 hH2 => RL.new rfl hH2 (f := fun b => (.pointer (some ⟨b, 0, none⟩))) (run_alloc zero_el) <| fun b6 w4 hH5 => RL.nil <| SR <| ?_
 refine V (run_move (by conv => lhs; whnf)) ?_
 refine V (run_move (by conv => lhs; whnf)) ?_
 refine V (run_lenSl (hs.hp hH5) rfl underlying37 rfl) <| V (run_sub rfl rfl (by omega)) <| V (run_indexAddrS (hs.hp hH5) underlying37 sizeOf40 rfl rfl (by omega)) <| V (run_ldElS (hs.hp hH5) underlying40 rfl rfl rfl (by omega)) <| RL.new rfl hH5 (f := fun b => (.pointer (some ⟨b, 0, none⟩))) (run_alloc zero_el) <| fun b9 w7 hH8 => RL.set hH8 (i := 0) rfl (run_stEl rfl rfl rfl (hH8.blk (i := 0) rfl)) <| fun w10 hH11 => ?_
 simp only [z2] at hH11
 refine RL.nil <| CW.seq <| SR <| ?_
 refine V (run_move (by conv => lhs; whnf)) ?_
 refine V (run_lenSl (hs.hp hH11) rfl underlying37 rfl) <| V (run_sub rfl rfl (by omega)) <| aI rfl <| RL.nil <| CW.block <| CW.loop (G := Int × El) (fun ⟨k, e1⟩ s' w' => (Fr (8 :: (rg 18 19 [])) _ s') ∧ (Hp w w' (.blk b9 (.cells (elC e1) 40 (0, 0)) :: _)) ∧ (s' 8 = I k) ∧ (-1 ≤ k) ∧ (k ≤ (l.length : Int) - 2) ∧ (e1 = foldE (opE s.sh op) (l.drop (k + 1).toNat))) (fun ⟨k, e1⟩ => (k + 1).toNat) (((l.length : Int) - 2, (l.getD ((l.length : Int) - 1).toNat el0))) ⟨Fr.refl _ _, hH11, rfl, (by omega), (by omega), (by rw [show ((l.length : Int) - 2 + 1).toNat = l.length - 1 by omega, foldE_last (by intro h; rw [h] at hne; simp at hne)]; congr 1; omega)⟩ <| ?_
 rintro ⟨k, e1⟩ sg12 w12 ⟨fr12, hH12, e8_12, h0, hk, he⟩
 have e1_12 := fr12.ii 1 rfl rfl
 have e2_12 := (fr12 2 rfl).trans (by conv => lhs; whnf)
 have e3_12 := fr12.pp 3 rfl rfl
 have e6_12 := fr12.pp 6 rfl rfl
 have e7_12 := fr12.pp 7 rfl rfl
 refine CW.seq <| SR <| vm e8_12 <| V (run_geq rfl rfl) <| RL.nil <| CW.condP rfl (fun h14 => ?_) (fun h14 => ?_)
 ·refine CW.skip <| CW.seq <| CW.block <| CW.seq <| SR <| vm e1_12 <| V (run_eql rfl rfl) <| RL.nil <| CW.condP rfl (fun h16 => ?_) (fun h16 => ?_)
  ·refine CW.seq <| CW.regionS (by kernel_rfl) hH12 (sQ sR) <| fun w17 hH18 => have zh18 := hH18.sub (sQ sR); AT 0 rfl zh18 (fun w hS => run_ldA (cs := [B _, _]) underlying24 rfl rfl e3_12 (rangeAt_cells (hS.blk (i := 1) rfl))) <| AQ 1 rfl zh18 (run_move e2_12) <| AQ 2 rfl zh18 (run_move e8_12) <| AT 3 rfl zh18 (fun w hS => run_indexAddrS (hs.hp hS) underlying37 sizeOf40 rfl rfl (by omega)) <| AT 4 rfl zh18 (fun w hS => run_ldElS (hs.hp hS) underlying40 rfl rfl rfl (by omega)) <| A1 5 <| AO.read rfl gnone rfl hH18 (sQ sR) (run_ldEl underlying40 rfl rfl e7_12 (hH18.blk (i := 0) rfl)) <| A1 6 <| AO.callP rfl gnone rfl hH18 (sQ sR) (c_shape_Join _ _ _  _ (hsh.mono hH18.kw) (hT.hp hH18)) (run_call3 call49 rfl rfl rfl) <| fun w21 hH22 => A1 7 <| AO.set rfl gnone hH22 (j := 0) rfl (sQ sR) (run_stEl rfl e7_12 rfl (hH22.blk (i := 0) rfl)) <| fun w25 hH26 => ?_
   simp only [z2] at hH26
   refine AD <| CW.exit (id := 1) rfl <| CW.region <| vm e8_12 <| V (run_sub rfl rfl (by omega)) <| aI rfl <| RL.nil <| ?_
   refine ⟨(k - 1, _), ?_, fr12.u4.u4.u4.u1.u1, hH26, (congrArg I (by rfl)), ?_, ?_, ?_⟩
   ·((try dsimp only); omega)
   ·omega
   ·omega
   ·(rw [show (k - 1 + 1).toNat = k.toNat by omega, foldE_k (by omega) (by omega), ← he]; exact opE_3 ‹op = 3›)
  ·refine CW.skip <| CW.regionS (by kernel_rfl) hH12 (sQ sR) <| fun w27 hH28 => have zh28 := hH28.sub (sQ sR); AQ 0 rfl zh28 (run_move e2_12) <| AQ 1 rfl zh28 (run_move e8_12) <| AT 2 rfl zh28 (fun w hS => run_indexAddrS (hs.hp hS) underlying37 sizeOf40 rfl rfl (by omega)) <| AT 3 rfl zh28 (fun w hS => run_ldElS (hs.hp hS) underlying40 rfl rfl rfl (by omega)) <| A1 4 <| AO.read rfl gnone rfl hH28 (sQ sR) (run_ldEl underlying40 rfl rfl e7_12 (hH28.blk (i := 0) rfl)) <| A1 5 <| AO.callP rfl gnone rfl hH28 (sQ sR) (c_shape_Meet _ _  _) (run_call2 call50 rfl rfl) <| fun w31 hH32 => A1 6 <| AO.set rfl gnone hH32 (j := 0) rfl (sQ sR) (run_stEl rfl e7_12 rfl (hH32.blk (i := 0) rfl)) <| fun w35 hH36 => ?_
   simp only [z2] at hH36
   refine AD <| CW.region <| vm e8_12 <| V (run_sub rfl rfl (by omega)) <| aI rfl <| RL.nil <| ?_
   refine ⟨(k - 1, _), ?_, fr12.u4.u4.u4.u1, hH36, (congrArg I (by rfl)), ?_, ?_, ?_⟩
   ·((try dsimp only); omega)
   ·omega
   ·omega
   ·(rw [show (k - 1 + 1).toNat = k.toNat by omega, foldE_k (by omega) (by omega), ← he]; exact opE_4 ‹¬ op = 3›)
 ·refine CW.exit (id := 0) rfl <| SR <| V (run_ldEl underlying40 rfl rfl e7_12 (hH12.blk (i := 0) rfl)) <| RL.set hH12 (i := 1) rfl (run_stEl rfl e6_12 rfl (hH12.blk (i := 1) rfl)) <| fun w37 hH38 => ?_
  simp only [z2] at hH38
  refine RL.nil <| CW.ret <| outCg Tryz.results38 e6_12 hH38 (i := 1) rfl underlying40 rfl (by rw [elC_size]; rfl) ⟨?_, hH38.below⟩
  (exact congrArg Value.agg (elC_congr (by rw [he, show (k + 1).toNat = 0 by omega]; exact fun _ _ => rfl)))
set_option maxHeartbeats 1000000 in
theorem c_code_Eval (s : Shp) (v : Value) (l : List InsR) (u : Value) (vs : List El) (hl : l.length ≤ 1000) (w : World) (hs : Sl w v 10 l.length (l.flatMap insL)) (ht : Sl w u 8 vs.length (vs.flatMap elL)) (hsh : ShpV (Kw w) s) (hT : Tab w) : Calls Tryz.prog 19 #[.agg (shpC s), v, u] w (Pure (.tuple #[.agg (elC (evalF s.sh l vs).1), B (evalF s.sh l vs).2]) w) := by
 have hm := hs.small
 unfold maxLen at hm
 have hm2 := ht.small
 unfold maxLen at hm2
 refine enter Tryz.func19 rfl Tryz.ntmps19 rfl <| have hH := Hp.start w; SR <| RL.new rfl hH (f := fun b => (.pointer (some ⟨b, 0, none⟩))) (run_box (v := .agg _) rfl) <| fun b3 w1 hH2 => RL.new rfl hH2 (f := fun b => (.pointer (some ⟨b, 0, none⟩))) (run_alloc zero_el) <| fun b6 w4 hH5 => va (v := B false) rfl <| RL.nil <| CW.seq <| SR <| ?_
 refine V (run_move (by conv => lhs; whnf)) ?_
 refine RL.callP rfl hH5 (c_code_Right _ _  _ (hs.hp hH5)) (run_call1 call37 rfl) <| fun w7 hH8 => V (run_not rfl) <| RL.nil <| CW.cond rfl (fun h11 => ?_) (fun h11 => ?_)
 ·refine SR <| V (run_bld (vs := []) rfl (built_el0)) <| RL.set hH8 (i := 0) rfl (run_stEl rfl rfl rfl (hH8.blk (i := 0) rfl)) <| fun w12 hH13 => ?_
  simp only [z2] at hH13
  refine va (v := B false) rfl <| RL.nil <| CW.ret <| outCT Tryz.results19 rfl rfl hH13 (i := 0) rfl underlying40 rfl (by rw [elC_size]; rfl) ⟨?_, hH13.below⟩
  (rw [ev_no (nt ‹(!rightC l) = true›)]; rfl)
 ·refine CW.skip <| SR <| va (v := .slice none 0 0) rfl <| have hH14 := hH8.nilRow 40 8; RL.nil <| CW.seq <| SR <| ?_
  refine V (run_move (by conv => lhs; whnf)) ?_
  refine V (run_lenSl (hs.hp hH14) rfl underlying36 rfl) <| vm (v := I 0) rfl <| RL.nil <| CW.block <| have hr : rightC l = true := nf ‹(!rightC l) = false›; CW.loop (G := Int × (List El) × Value) (fun ⟨k, st, v8⟩ s' w' => (Fr (7 :: 8 :: (10 :: 11 :: (rg 18 53 []))) _ s') ∧ (Hp w w' (.row v8 40 8 (st.length) (st.flatMap elL) :: _)) ∧ (s' 8 = v8) ∧ (s' 18 = I k) ∧ (0 ≤ k) ∧ (k ≤ l.length) ∧ (stackTo s.sh vs l k = some st) ∧ (deepTo l k = some (st.length : Int))) (fun ⟨k, st, v8⟩ => (l.length - k).toNat) ((0, [], (.slice none 0 0 : Value))) ⟨Fr.refl _ _, hH14, rfl, rfl, (by omega), (by omega), rfl, deep_zero l⟩ <| ?_
  rintro ⟨k, st, v8⟩ sg15 w15 ⟨fr15, hH15, e8_15, e18_15, h0, hk, hst, hdp⟩
  have e2_15 := (fr15 2 rfl).trans (by conv => lhs; whnf)
  have e3_15 := fr15.pp 3 rfl rfl
  have e6_15 := fr15.pp 6 rfl rfl
  have e16_15 := (fr15 16 rfl).trans (by conv => lhs; whnf)
  have e17_15 := fr15.ii 17 rfl rfl
  have hdk := deep_bd h0 hk hdp
  refine SR <| V (run_lss e18_15 e17_15) <| RL.nil <| CW.seq <| CW.condP rfl (fun h17 => ?_) (fun h17 => ?_)
  ·refine CW.skip <| CW.seq <| CW.block <| SR <| V (run_indexAddrS (hs.hp hH15) underlying36 sizeOf84 e16_15 e18_15 (by omega)) <| V (run_ldE (dv := ins0) insL_len (hs.hp hH15) underlying84 rfl rfl rfl (by omega)) <| RL.new rfl hH15 (f := fun b => (.pointer (some ⟨b, 0, none⟩))) (run_alloc zero_ins) <| fun b20 w18 hH19 => RL.set hH19 (i := 0) rfl (run_stW (c' := (insL _).toArray) rfl rfl rfl (insL_one _) (hH19.blk (i := 0) rfl) rfl) <| fun w21 hH22 => ?_
   simp only [z2] at hH22
   refine RL.nil <| SR <| V (fA underlying84 0 rfl sizeOf3 rfl) <| V (run_ld underlying3 rfl rfl (hH22.cell (i := 0) rfl (v := I _) rfl)) <| RL.nil <| CW.block <| SR <| V (run_eql rfl rfl) <| aB rfl <| RL.nil <| CW.condP rfl (fun h24 => ?_) (fun h24 => ?_)
   ·refine CW.seq <| SR <| V (fA underlying84 1 rfl sizeOf3 rfl) <| V (run_ld underlying3 rfl rfl (hH22.cell (i := 0) rfl (v := I _) rfl)) <| V (run_lss rfl rfl) <| mB rfl <| RL.splitP (dj := 47) rfl (fun h26 => ?_) (fun h26 => ?_)
    ·refine gF rfl (bT h26) <| gF rfl (bT h26) <| gF rfl (bT h26) <| gF rfl (bT h26) <| gF rfl (bT h26) <| V (run_pickT (bT h26) (v := B true) rfl) <| RL.nil <| CW.condT rfl <| SR <| V (run_bld (vs := []) rfl (built_el0)) <| RL.set hH22 (i := 2) rfl (run_stEl rfl e6_15 rfl (hH22.blk (i := 2) rfl)) <| fun w27 hH28 => ?_
     simp only [z2] at hH28
     refine va (v := B false) rfl <| RL.nil <| CW.ret <| outCT Tryz.results19 e6_15 rfl hH28 (i := 2) rfl underlying40 rfl (by rw [elC_size]; rfl) ⟨?_, hH28.below⟩
     (rw [ev_dead h0 ‹k < _› hst ‹(List.getD l k.toNat ins0).op = 1› (by omega)]; rfl)
    ·refine gT rfl (bF h26) <| V (fA underlying84 1 rfl sizeOf3 rfl) <| gT rfl (bF h26) <| V (run_ld underlying3 rfl rfl (hH22.cell (i := 0) rfl (v := I _) rfl)) <| gT rfl (bF h26) <| vm e2_15 <| gT rfl (bF h26) <| V (run_lenSl (ht.hp hH22) rfl underlying37 rfl) <| gT rfl (bF h26) <| V (run_geq rfl rfl) <| V (run_pickF (bF h26) (v := B _) rfl) <| RL.nil <| CW.condP rfl (fun h30 => ?_) (fun h30 => ?_)
     ·refine SR <| V (run_bld (vs := []) rfl (built_el0)) <| RL.set hH22 (i := 2) rfl (run_stEl rfl e6_15 rfl (hH22.blk (i := 2) rfl)) <| fun w31 hH32 => ?_
      simp only [z2] at hH32
      refine va (v := B false) rfl <| RL.nil <| CW.ret <| outCT Tryz.results19 e6_15 rfl hH32 (i := 2) rfl underlying40 rfl (by rw [elC_size]; rfl) ⟨?_, hH32.below⟩
      (rw [ev_dead h0 ‹k < _› hst ‹(List.getD l k.toNat ins0).op = 1› (by omega)]; rfl)
     ·refine CW.skip <| CW.region <| vm e8_15 <| vm e2_15 <| V (fA underlying84 1 rfl sizeOf3 rfl) <| V (run_ld underlying3 rfl rfl (hH22.cell (i := 0) rfl (v := I _) rfl)) <| V (run_indexAddrS (ht.hp hH22) underlying37 sizeOf40 rfl rfl (by omega)) <| V (run_ldElS (ht.hp hH22) underlying40 rfl rfl rfl (by omega)) <| RL.new rfl hH22 (f := fun b => (.slice (some ⟨b, 0, none⟩) 1 1)) (run_mkEl1 underlying37 rfl rfl rfl rfl) <| fun b35 w33 hH34 => ?_
      (try simp only [clX] at hH34)
      refine RL.app rfl hH34 (i := 2) rfl (Hp.slFlat elL_len hH34 (i := 0) (l := [_]) rfl (by simp [maxLen])) rfl rfl underlying37 rfl rfl (size := 8) (bytes := 64) rfl rfl rfl (by decide) (els_one _) (by show (st.length + 1) * _ ≤ _; omega) (by show st.length + 1 ≤ _; simp only [maxLen]; omega) <| fun v36 w37 hH38 => ?_
      simp only [z2] at hH38
      refine V (run_assign (by conv => lhs; whnf)) ?_
      refine RL.nil <| CW.region <| V (run_add e18_15 rfl (by omega)) <| mI rfl <| RL.nil <| ?_
      refine ⟨(k + 1, st ++ [vs.getD (l.getD k.toNat ins0).n.toNat el0], v36), ?_, fr15.u4.u4.u4.u4.u4.u4.u4.u1, (Hp.conv (hH38.sub (sQ (sQ sR))) (by simp; done)), rfl, (congrArg I (by rfl)), ?_, ?_, ?_, ?_⟩
      ·((try dsimp only); omega)
      ·omega
      ·omega
      ·exact ev_1 h0 ‹k < _› hst ‹(List.getD l k.toNat ins0).op = 1› ⟨by omega, by omega⟩
      ·(rw [deep_next h0 ‹k < _›, hdp, st_push (.inl ‹(List.getD l k.toNat ins0).op = 1›)]; simp; done)
   ·refine SR <| V (run_eql rfl rfl) <| aB rfl <| RL.nil <| CW.condP rfl (fun h40 => ?_) (fun h40 => ?_)
    ·refine CW.region <| vm e8_15 <| V (fA underlying84 2 rfl sizeOf40 rfl) <| V (run_ldElR underlying40 rfl rfl rfl (hH22.blk (i := 0) rfl) (ins_elB _)) <| RL.new rfl hH22 (f := fun b => (.slice (some ⟨b, 0, none⟩) 1 1)) (run_mkEl1 underlying37 rfl rfl rfl rfl) <| fun b43 w41 hH42 => ?_
     (try simp only [clX] at hH42)
     refine RL.app rfl hH42 (i := 2) rfl (Hp.slFlat elL_len hH42 (i := 0) (l := [_]) rfl (by simp [maxLen])) rfl rfl underlying37 rfl rfl (size := 8) (bytes := 64) rfl rfl rfl (by decide) (els_one _) (by show (st.length + 1) * _ ≤ _; omega) (by show st.length + 1 ≤ _; simp only [maxLen]; omega) <| fun v44 w45 hH46 => ?_
     simp only [z2] at hH46
     refine V (run_assign (by conv => lhs; whnf)) ?_
     refine RL.nil <| CW.region <| V (run_add e18_15 rfl (by omega)) <| mI rfl <| RL.nil <| ?_
     refine ⟨(k + 1, st ++ [(l.getD k.toNat ins0).c], v44), ?_, fr15.u4.u4.u4.u4.u1.u1, (Hp.conv (hH46.sub (sQ (sQ sR))) (by simp; done)), rfl, (congrArg I (by rfl)), ?_, ?_, ?_, ?_⟩
     ·((try dsimp only); omega)
     ·omega
     ·omega
     ·exact ev_2 h0 ‹k < _› hst ‹(List.getD l k.toNat ins0).op = 2›
     ·(rw [deep_next h0 ‹k < _›, hdp, st_push (.inr ‹(List.getD l k.toNat ins0).op = 2›)]; simp; done)
    ·refine SR <| vm e8_15 <| V (run_lenSl (hH22.sl (i := 1) rfl) rfl underlying37 rfl) <| V (fA underlying84 1 rfl sizeOf3 rfl) <| V (run_ld underlying3 rfl rfl (hH22.cell (i := 0) rfl (v := I _) rfl)) <| V (run_sub rfl rfl (by have hq := (deep_pop hr h0 ‹k < _› hdp ‹¬ (List.getD l k.toNat ins0).op = 1› ‹¬ (List.getD l k.toNat ins0).op = 2›); omega)) <| aI rfl <| RL.nil <| have hpo := (deep_pop hr h0 ‹k < _› hdp ‹¬ (List.getD l k.toNat ins0).op = 1› ‹¬ (List.getD l k.toNat ins0).op = 2›); CW.regionS (by kernel_rfl) hH22 (sP (sQ sR)) <| fun w47 hH48 => have zh48 := hH48.sub (sP (sQ sR)); AQ 0 rfl zh48 (run_move e8_15) <| AQ 1 rfl zh48 (mV (I _) rfl) <| AQ 2 rfl zh48 (mV (I _) rfl) <| AT 4 rfl zh48 (fun w hS => run_ldA (cs := [B _, _]) underlying24 rfl rfl e3_15 (rangeAt_cells (hS.blk (i := 2) rfl))) <| AQ 5 rfl zh48 (fA underlying84 0 rfl sizeOf3 rfl) <| AT 6 rfl zh48 (fun w hS => run_ld underlying3 rfl rfl (hS.cell (i := 0) rfl (v := I _) rfl)) <| AQ 7 rfl zh48 (run_move e8_15) <| AQ 8 rfl zh48 (mV (I _) rfl) <| AN.two 3 9 (by kernel_rfl) ?_ ?_
     ·refine AO.read rfl gnone rfl hH48 (sP (sQ sR)) (run_cut3 (hH48.sl (i := 1) rfl) underlying37 sizeOf40 rfl rfl rfl (by omega)) <| A1 9 <| AO.read rfl gnone rfl hH48 (sP (sQ sR)) (run_from (hH48.sl (i := 1) rfl) underlying37 sizeOf40 rfl rfl (by omega)) <| A1 10 <| AO.callP rfl gnone rfl hH48 (sP (sQ sR)) (c_code_fold s (l.getD k.toNat ins0).op _ (st.drop ((st.length : Int) - (l.getD k.toNat ins0).n).toNat) (by rw [List.length_drop]; omega) _ (Sl.frE elL_len (hH48.sl (i := 1) rfl) _ (by omega)) (hsh.mono hH48.kw) (hT.hp hH48)) (run_call3 call38 rfl rfl rfl) <| fun w53 hH54 => A1 11 <| AO.new rfl gnone rfl hH54 (sP (sQ sR)) (f := fun b => .slice (some ⟨b, 0, none⟩) 1 1) (run_mkEl1 underlying37 rfl rfl rfl rfl) <| fun b57 w55 hH56 => ?_
      (try simp only [clX] at hH56)
      refine A1 12 <| AO.appG rfl gnone rfl hH56 (j := 2) rfl (q := (((st.length : Int) - (l.getD k.toNat ins0).n)).toNat) (by omega) (fun _ => (sQ (sP (sQ sR)))) (Hp.slFlat elL_len hH56 (i := 0) (l := [_]) rfl (by simp [maxLen])) rfl rfl underlying37 rfl rfl (size := 8) (bytes := 64) rfl rfl rfl (by simp) (by show (((st.length : Int) - (l.getD k.toNat ins0).n).toNat + 1) * _ ≤ _; omega) (by show ((st.length : Int) - (l.getD k.toNat ins0).n).toNat + 1 ≤ _; simp only [maxLen]; omega) <| fun v60 w61 hH62 => ?_
      simp only [z2] at hH62
      refine AQ 13 rfl (hH62.sub (sQ (sP (sQ sR)))) (run_assign (by conv => lhs; whnf)) ?_
      refine AD <| CW.region <| V (run_add e18_15 rfl (by omega)) <| mI rfl <| RL.nil <| ?_
      refine ⟨(k + 1, st.take ((st.length : Int) - (l.getD k.toNat ins0).n).toNat ++ [foldE (opE s.sh (l.getD k.toNat ins0).op) (st.drop ((st.length : Int) - (l.getD k.toNat ins0).n).toNat)], v60), ?_, fr15.u4.u4.u4.u4.u4.u4.u4.u4, (Hp.conv (hH62.sub (sQ (sQ sR))) (by rw [flat_take elL_len, List.length_append, List.length_take, Nat.min_eq_left (by omega), List.flatMap_append]; done)), rfl, (congrArg I (by rfl)), ?_, ?_, ?_, ?_⟩
      ·((try dsimp only); omega)
      ·omega
      ·omega
      ·exact ev_3i h0 ‹k < _› hst ‹¬ (List.getD l k.toNat ins0).op = 1› ‹¬ (List.getD l k.toNat ins0).op = 2› rfl (by have := (deep_pop hr h0 ‹k < _› hdp ‹¬ (List.getD l k.toNat ins0).op = 1› ‹¬ (List.getD l k.toNat ins0).op = 2›); omega)
      ·(have hq := (deep_pop hr h0 ‹k < _› hdp ‹¬ (List.getD l k.toNat ins0).op = 1› ‹¬ (List.getD l k.toNat ins0).op = 2›); rw [hq.2.2, List.length_append, List.length_take, List.length_singleton]; congr 1 <;> omega)
     ·refine AO.read rfl gnone rfl hH48 (sP (sQ sR)) (run_from (hH48.sl (i := 1) rfl) underlying37 sizeOf40 rfl rfl (by omega)) <| AN.two 3 10 (by kernel_rfl) ?_ ?_
      ·refine AO.read rfl gnone rfl hH48 (sP (sQ sR)) (run_cut3 (hH48.sl (i := 1) rfl) underlying37 sizeOf40 rfl rfl rfl (by omega)) <| A1 10 <| AO.callP rfl gnone rfl hH48 (sP (sQ sR)) (c_code_fold s (l.getD k.toNat ins0).op _ (st.drop ((st.length : Int) - (l.getD k.toNat ins0).n).toNat) (by rw [List.length_drop]; omega) _ (Sl.frE elL_len (hH48.sl (i := 1) rfl) _ (by omega)) (hsh.mono hH48.kw) (hT.hp hH48)) (run_call3 call38 rfl rfl rfl) <| fun w67 hH68 => A1 11 <| AO.new rfl gnone rfl hH68 (sP (sQ sR)) (f := fun b => .slice (some ⟨b, 0, none⟩) 1 1) (run_mkEl1 underlying37 rfl rfl rfl rfl) <| fun b71 w69 hH70 => ?_
       (try simp only [clX] at hH70)
       refine A1 12 <| AO.appG rfl gnone rfl hH70 (j := 2) rfl (q := (((st.length : Int) - (l.getD k.toNat ins0).n)).toNat) (by omega) (fun _ => (sQ (sP (sQ sR)))) (Hp.slFlat elL_len hH70 (i := 0) (l := [_]) rfl (by simp [maxLen])) rfl rfl underlying37 rfl rfl (size := 8) (bytes := 64) rfl rfl rfl (by simp) (by show (((st.length : Int) - (l.getD k.toNat ins0).n).toNat + 1) * _ ≤ _; omega) (by show ((st.length : Int) - (l.getD k.toNat ins0).n).toNat + 1 ≤ _; simp only [maxLen]; omega) <| fun v74 w75 hH76 => ?_
       simp only [z2] at hH76
       refine AQ 13 rfl (hH76.sub (sQ (sP (sQ sR)))) (run_assign (by conv => lhs; whnf)) ?_
       refine AD <| CW.region <| V (run_add e18_15 rfl (by omega)) <| mI rfl <| RL.nil <| ?_
       refine ⟨(k + 1, st.take ((st.length : Int) - (l.getD k.toNat ins0).n).toNat ++ [foldE (opE s.sh (l.getD k.toNat ins0).op) (st.drop ((st.length : Int) - (l.getD k.toNat ins0).n).toNat)], v74), ?_, fr15.u4.u4.u4.u4.u4.u4.u4.u4, (Hp.conv (hH76.sub (sQ (sQ sR))) (by rw [flat_take elL_len, List.length_append, List.length_take, Nat.min_eq_left (by omega), List.flatMap_append]; done)), rfl, (congrArg I (by rfl)), ?_, ?_, ?_, ?_⟩
       ·((try dsimp only); omega)
       ·omega
       ·omega
       ·exact ev_3i h0 ‹k < _› hst ‹¬ (List.getD l k.toNat ins0).op = 1› ‹¬ (List.getD l k.toNat ins0).op = 2› rfl (by have := (deep_pop hr h0 ‹k < _› hdp ‹¬ (List.getD l k.toNat ins0).op = 1› ‹¬ (List.getD l k.toNat ins0).op = 2›); omega)
       ·(have hq := (deep_pop hr h0 ‹k < _› hdp ‹¬ (List.getD l k.toNat ins0).op = 1› ‹¬ (List.getD l k.toNat ins0).op = 2›); rw [hq.2.2, List.length_append, List.length_take, List.length_singleton]; congr 1 <;> omega)
      ·refine AO.callP rfl gnone rfl hH48 (sP (sQ sR)) (c_code_fold s (l.getD k.toNat ins0).op _ (st.drop ((st.length : Int) - (l.getD k.toNat ins0).n).toNat) (by rw [List.length_drop]; omega) _ (Sl.frE elL_len (hH48.sl (i := 1) rfl) _ (by omega)) (hsh.mono hH48.kw) (hT.hp hH48)) (run_call3 call38 rfl rfl rfl) <| fun w77 hH78 => AN.two 3 11 (by kernel_rfl) ?_ ?_
       ·refine AO.read rfl gnone rfl hH78 (sP (sQ sR)) (run_cut3 (hH78.sl (i := 1) rfl) underlying37 sizeOf40 rfl rfl rfl (by omega)) <| A1 11 <| AO.new rfl gnone rfl hH78 (sP (sQ sR)) (f := fun b => .slice (some ⟨b, 0, none⟩) 1 1) (run_mkEl1 underlying37 rfl rfl rfl rfl) <| fun b83 w81 hH82 => ?_
        (try simp only [clX] at hH82)
        refine A1 12 <| AO.appG rfl gnone rfl hH82 (j := 2) rfl (q := (((st.length : Int) - (l.getD k.toNat ins0).n)).toNat) (by omega) (fun _ => (sQ (sP (sQ sR)))) (Hp.slFlat elL_len hH82 (i := 0) (l := [_]) rfl (by simp [maxLen])) rfl rfl underlying37 rfl rfl (size := 8) (bytes := 64) rfl rfl rfl (by simp) (by show (((st.length : Int) - (l.getD k.toNat ins0).n).toNat + 1) * _ ≤ _; omega) (by show ((st.length : Int) - (l.getD k.toNat ins0).n).toNat + 1 ≤ _; simp only [maxLen]; omega) <| fun v86 w87 hH88 => ?_
        simp only [z2] at hH88
        refine AQ 13 rfl (hH88.sub (sQ (sP (sQ sR)))) (run_assign (by conv => lhs; whnf)) ?_
        refine AD <| CW.region <| V (run_add e18_15 rfl (by omega)) <| mI rfl <| RL.nil <| ?_
        refine ⟨(k + 1, st.take ((st.length : Int) - (l.getD k.toNat ins0).n).toNat ++ [foldE (opE s.sh (l.getD k.toNat ins0).op) (st.drop ((st.length : Int) - (l.getD k.toNat ins0).n).toNat)], v86), ?_, fr15.u4.u4.u4.u4.u4.u4.u4.u4, (Hp.conv (hH88.sub (sQ (sQ sR))) (by rw [flat_take elL_len, List.length_append, List.length_take, Nat.min_eq_left (by omega), List.flatMap_append]; done)), rfl, (congrArg I (by rfl)), ?_, ?_, ?_, ?_⟩
        ·((try dsimp only); omega)
        ·omega
        ·omega
        ·exact ev_3i h0 ‹k < _› hst ‹¬ (List.getD l k.toNat ins0).op = 1› ‹¬ (List.getD l k.toNat ins0).op = 2› rfl (by have := (deep_pop hr h0 ‹k < _› hdp ‹¬ (List.getD l k.toNat ins0).op = 1› ‹¬ (List.getD l k.toNat ins0).op = 2›); omega)
        ·(have hq := (deep_pop hr h0 ‹k < _› hdp ‹¬ (List.getD l k.toNat ins0).op = 1› ‹¬ (List.getD l k.toNat ins0).op = 2›); rw [hq.2.2, List.length_append, List.length_take, List.length_singleton]; congr 1 <;> omega)
       ·refine AO.new rfl gnone rfl hH78 (sP (sQ sR)) (f := fun b => .slice (some ⟨b, 0, none⟩) 1 1) (run_mkEl1 underlying37 rfl rfl rfl rfl) <| fun b91 w89 hH90 => ?_
        (try simp only [clX] at hH90)
        refine A1 3 <| AO.read rfl gnone rfl hH90 (sQ (sP (sQ sR))) (run_cut3 (hH90.sl (i := 2) rfl) underlying37 sizeOf40 rfl rfl rfl (by omega)) <| A1 12 <| AO.appG rfl gnone rfl hH90 (j := 2) rfl (q := (((st.length : Int) - (l.getD k.toNat ins0).n)).toNat) (by omega) (fun _ => (sQ (sP (sQ sR)))) (Hp.slFlat elL_len hH90 (i := 0) (l := [_]) rfl (by simp [maxLen])) rfl rfl underlying37 rfl rfl (size := 8) (bytes := 64) rfl rfl rfl (by simp) (by show (((st.length : Int) - (l.getD k.toNat ins0).n).toNat + 1) * _ ≤ _; omega) (by show ((st.length : Int) - (l.getD k.toNat ins0).n).toNat + 1 ≤ _; simp only [maxLen]; omega) <| fun v96 w97 hH98 => ?_
        simp only [z2] at hH98
        refine AQ 13 rfl (hH98.sub (sQ (sP (sQ sR)))) (run_assign (by conv => lhs; whnf)) ?_
        refine AD <| CW.region <| V (run_add e18_15 rfl (by omega)) <| mI rfl <| RL.nil <| ?_
        refine ⟨(k + 1, st.take ((st.length : Int) - (l.getD k.toNat ins0).n).toNat ++ [foldE (opE s.sh (l.getD k.toNat ins0).op) (st.drop ((st.length : Int) - (l.getD k.toNat ins0).n).toNat)], v96), ?_, fr15.u4.u4.u4.u4.u4.u4.u4.u4, (Hp.conv (hH98.sub (sQ (sQ sR))) (by rw [flat_take elL_len, List.length_append, List.length_take, Nat.min_eq_left (by omega), List.flatMap_append]; done)), rfl, (congrArg I (by rfl)), ?_, ?_, ?_, ?_⟩
        ·((try dsimp only); omega)
        ·omega
        ·omega
        ·exact ev_3i h0 ‹k < _› hst ‹¬ (List.getD l k.toNat ins0).op = 1› ‹¬ (List.getD l k.toNat ins0).op = 2› rfl (by have := (deep_pop hr h0 ‹k < _› hdp ‹¬ (List.getD l k.toNat ins0).op = 1› ‹¬ (List.getD l k.toNat ins0).op = 2›); omega)
        ·(have hq := (deep_pop hr h0 ‹k < _› hdp ‹¬ (List.getD l k.toNat ins0).op = 1› ‹¬ (List.getD l k.toNat ins0).op = 2›); rw [hq.2.2, List.length_append, List.length_take, List.length_singleton]; congr 1 <;> omega)
  ·refine CW.exit (id := 0) rfl <| SR <| vm e8_15 <| V (run_indexAddrS (hH15.sl (i := 0) rfl) underlying37 sizeOf40 rfl rfl (by have := deep_fin hr hk ‹¬ k < _› hdp; omega)) <| V (run_ldElS (hH15.sl (i := 0) rfl) underlying40 rfl rfl rfl (by have := deep_fin hr hk ‹¬ k < _› hdp; omega)) <| RL.set hH15 (i := 1) rfl (run_stEl rfl e6_15 rfl (hH15.blk (i := 1) rfl)) <| fun w99 hH100 => ?_
   simp only [z2] at hH100
   refine va (v := B true) rfl <| RL.nil <| CW.ret <| outCT Tryz.results19 e6_15 rfl hH100 (i := 1) rfl underlying40 rfl (by rw [elC_size]; rfl) ⟨?_, hH100.below⟩
   (rw [ev_end hr hk ‹¬ k < _› hst]; rfl)
set_option maxHeartbeats 2000000 in
theorem c_clearanceref14_Eval (s : Shp) (v : Value) (l : List InsR) (u : Value) (vs : List El) (hl : l.length ≤ 1000) (w : World) (hs : Sl w v 10 l.length (l.flatMap insL)) (ht : Sl w u 8 vs.length (vs.flatMap elL)) (hsh : ShpV (Kw w) s) : Calls Tryz.prog 24 #[.agg (shpC s), v, u] w (Pure (.tuple #[.agg (elC (evalF s.sh l vs).1), B (evalF s.sh l vs).2]) w) := by
 have hm := hs.small
 unfold maxLen at hm
 have hm2 := ht.small
 unfold maxLen at hm2
 refine enter Tryz.func24 rfl Tryz.ntmps24 rfl <| have hH := Hp.start w; SR <| RL.new rfl hH (f := fun b => (.pointer (some ⟨b, 0, none⟩))) (run_box (v := .agg _) rfl) <| fun b3 w1 hH2 => RL.new rfl hH2 (f := fun b => (.pointer (some ⟨b, 0, none⟩))) (run_alloc zero_el) <| fun b6 w4 hH5 => va (v := B false) rfl <| RL.nil <| SR <| va (v := .slice none 0 0) rfl <| have hH7 := hH5.nilRow 40 8; RL.nil <| CW.seq <| SR <| ?_
 refine V (run_move (by conv => lhs; whnf)) ?_
 refine RL.callP rfl hH7 (c_clearanceref14_Right _ _  _ (hs.hp hH7)) (run_call1 call44 rfl) <| fun w8 hH9 => V (run_not rfl) <| RL.nil <| CW.cond rfl (fun h12 => ?_) (fun h12 => ?_)
 ·refine SR <| V (run_bld (vs := []) rfl (built_el0)) <| RL.set hH9 (i := 1) rfl (run_stEl rfl rfl rfl (hH9.blk (i := 1) rfl)) <| fun w13 hH14 => ?_
  simp only [z2] at hH14
  refine va (v := B false) rfl <| RL.nil <| CW.ret <| outCT Tryz.results24 rfl rfl hH14 (i := 1) rfl underlying40 rfl (by rw [elC_size]; rfl) ⟨?_, hH14.below⟩
  (rw [ev_no (nt ‹(!rightC l) = true›)]; rfl)
 ·refine CW.skip <| CW.seq <| SR <| va (v := I 0) rfl <| RL.nil <| CW.block <| have hr : rightC l = true := nf ‹(!rightC l) = false›; CW.loop (G := Int × (List El) × Value) (fun ⟨k, st, v8⟩ s' w' => (Fr (rg 7 6 (rg 17 86 [])) _ s') ∧ (Hp w w' (.row v8 40 8 (st.length) (st.flatMap elL) :: _)) ∧ (s' 8 = v8) ∧ (s' 9 = I k) ∧ (0 ≤ k) ∧ (k ≤ l.length) ∧ (stackTo s.sh vs l k = some st) ∧ (deepTo l k = some (st.length : Int))) (fun ⟨k, st, v8⟩ => (l.length - k).toNat) ((0, [], (.slice none 0 0 : Value))) ⟨Fr.refl _ _, hH9, rfl, rfl, (by omega), (by omega), rfl, deep_zero l⟩ <| ?_
  rintro ⟨k, st, v8⟩ sg15 w15 ⟨fr15, hH15, e8_15, e9_15, h0, hk, hst, hdp⟩
  have e1_15 := (fr15 1 rfl).trans (by conv => lhs; whnf)
  have e2_15 := (fr15 2 rfl).trans (by conv => lhs; whnf)
  have e3_15 := fr15.pp 3 rfl rfl
  have e6_15 := fr15.pp 6 rfl rfl
  have hdk := deep_bd h0 hk hdp
  refine CW.seq <| SR <| vm e9_15 <| vm e1_15 <| V (run_lenSl (hs.hp hH15) rfl underlying36 rfl) <| V (run_lss rfl rfl) <| RL.nil <| CW.condP rfl (fun h17 => ?_) (fun h17 => ?_)
  ·refine CW.skip <| CW.seq <| CW.block <| SR <| vm e1_15 <| vm e9_15 <| V (run_indexAddrS (hs.hp hH15) underlying36 sizeOf84 rfl rfl (by omega)) <| V (run_ldE (dv := ins0) insL_len (hs.hp hH15) underlying84 rfl rfl rfl (by omega)) <| RL.new rfl hH15 (f := fun b => (.pointer (some ⟨b, 0, none⟩))) (run_alloc zero_ins) <| fun b20 w18 hH19 => RL.set hH19 (i := 0) rfl (run_stW (c' := (insL _).toArray) rfl rfl rfl (insL_one _) (hH19.blk (i := 0) rfl) rfl) <| fun w21 hH22 => ?_
   simp only [z2] at hH22
   refine RL.nil <| SR <| V (fA underlying84 0 rfl sizeOf3 rfl) <| V (run_ld underlying3 rfl rfl (hH22.cell (i := 0) rfl (v := I _) rfl)) <| V (run_eql rfl rfl) <| RL.nil <| CW.condP rfl (fun h24 => ?_) (fun h24 => ?_)
   ·refine CW.region <| vm e8_15 <| V (fA underlying84 2 rfl sizeOf40 rfl) <| V (run_ldElR underlying40 rfl rfl rfl (hH22.blk (i := 0) rfl) (ins_elB _)) <| RL.new rfl hH22 (f := fun b => (.slice (some ⟨b, 0, none⟩) 1 1)) (run_mkEl1 underlying37 rfl rfl rfl rfl) <| fun b27 w25 hH26 => ?_
    (try simp only [clX] at hH26)
    refine RL.app rfl hH26 (i := 2) rfl (Hp.slFlat elL_len hH26 (i := 0) (l := [_]) rfl (by simp [maxLen])) rfl rfl underlying37 rfl rfl (size := 8) (bytes := 64) rfl rfl rfl (by decide) (els_one _) (by show (st.length + 1) * _ ≤ _; omega) (by simp only [maxLen]; ((show st.length + 1 ≤ _; omega))) <| fun v28 w29 hH30 => ?_
    simp only [z2] at hH30
    refine V (run_assign (by conv => lhs; whnf)) ?_
    refine RL.nil <| CW.region <| vm e9_15 <| V (run_add rfl rfl (by omega)) <| aI rfl <| RL.nil <| ?_
    refine ⟨(k + 1, st ++ [(l.getD k.toNat ins0).c], v28), ?_, fr15.u4.u4.u4.u4.u4.u1, (Hp.conv (hH30.sub (sQ (sQ sR))) (by simp; done)), rfl, (congrArg I (by rfl)), ?_, ?_, ?_, ?_⟩
    ·((try dsimp only); omega)
    ·omega
    ·omega
    ·exact ev_2 h0 ‹k < _› hst ‹(List.getD l k.toNat ins0).op = 2›
    ·(rw [deep_next h0 ‹k < _›, hdp, st_push (.inr ‹(List.getD l k.toNat ins0).op = 2›)]; simp; done)
   ·refine SR <| V (fA underlying84 0 rfl sizeOf3 rfl) <| V (run_ld underlying3 rfl rfl (hH22.cell (i := 0) rfl (v := I _) rfl)) <| V (run_eql rfl rfl) <| RL.nil <| CW.condP rfl (fun h32 => ?_) (fun h32 => ?_)
    ·refine CW.seq <| SR <| V (fA underlying84 1 rfl sizeOf3 rfl) <| V (run_ld underlying3 rfl rfl (hH22.cell (i := 0) rfl (v := I _) rfl)) <| V (run_lss rfl rfl) <| mB rfl <| RL.splitP (dj := 41) rfl (fun h34 => ?_) (fun h34 => ?_)
     ·refine gF rfl (bT h34) <| gF rfl (bT h34) <| gF rfl (bT h34) <| gF rfl (bT h34) <| gF rfl (bT h34) <| V (run_pickT (bT h34) (v := B true) rfl) <| RL.nil <| CW.condT rfl <| SR <| V (run_bld (vs := []) rfl (built_el0)) <| RL.set hH22 (i := 2) rfl (run_stEl rfl e6_15 rfl (hH22.blk (i := 2) rfl)) <| fun w35 hH36 => ?_
      simp only [z2] at hH36
      refine va (v := B false) rfl <| RL.nil <| CW.ret <| outCT Tryz.results24 e6_15 rfl hH36 (i := 2) rfl underlying40 rfl (by rw [elC_size]; rfl) ⟨?_, hH36.below⟩
      (rw [ev_dead h0 ‹k < _› hst ‹(List.getD l k.toNat ins0).op = 1› (by omega)]; rfl)
     ·refine gT rfl (bF h34) <| V (fA underlying84 1 rfl sizeOf3 rfl) <| gT rfl (bF h34) <| V (run_ld underlying3 rfl rfl (hH22.cell (i := 0) rfl (v := I _) rfl)) <| gT rfl (bF h34) <| vm e2_15 <| gT rfl (bF h34) <| V (run_lenSl (ht.hp hH22) rfl underlying37 rfl) <| gT rfl (bF h34) <| V (run_geq rfl rfl) <| V (run_pickF (bF h34) (v := B _) rfl) <| RL.nil <| CW.condP rfl (fun h38 => ?_) (fun h38 => ?_)
      ·refine SR <| V (run_bld (vs := []) rfl (built_el0)) <| RL.set hH22 (i := 2) rfl (run_stEl rfl e6_15 rfl (hH22.blk (i := 2) rfl)) <| fun w39 hH40 => ?_
       simp only [z2] at hH40
       refine va (v := B false) rfl <| RL.nil <| CW.ret <| outCT Tryz.results24 e6_15 rfl hH40 (i := 2) rfl underlying40 rfl (by rw [elC_size]; rfl) ⟨?_, hH40.below⟩
       (rw [ev_dead h0 ‹k < _› hst ‹(List.getD l k.toNat ins0).op = 1› (by omega)]; rfl)
      ·refine CW.skip <| CW.region <| vm e8_15 <| vm e2_15 <| V (fA underlying84 1 rfl sizeOf3 rfl) <| V (run_ld underlying3 rfl rfl (hH22.cell (i := 0) rfl (v := I _) rfl)) <| V (run_indexAddrS (ht.hp hH22) underlying37 sizeOf40 rfl rfl (by omega)) <| V (run_ldElS (ht.hp hH22) underlying40 rfl rfl rfl (by omega)) <| RL.new rfl hH22 (f := fun b => (.slice (some ⟨b, 0, none⟩) 1 1)) (run_mkEl1 underlying37 rfl rfl rfl rfl) <| fun b43 w41 hH42 => ?_
       (try simp only [clX] at hH42)
       refine RL.app rfl hH42 (i := 2) rfl (Hp.slFlat elL_len hH42 (i := 0) (l := [_]) rfl (by simp [maxLen])) rfl rfl underlying37 rfl rfl (size := 8) (bytes := 64) rfl rfl rfl (by decide) (els_one _) (by show (st.length + 1) * _ ≤ _; omega) (by simp only [maxLen]; ((show st.length + 1 ≤ _; omega))) <| fun v44 w45 hH46 => ?_
       simp only [z2] at hH46
       refine V (run_assign (by conv => lhs; whnf)) ?_
       refine RL.nil <| CW.region <| vm e9_15 <| V (run_add rfl rfl (by omega)) <| aI rfl <| RL.nil <| ?_
       refine ⟨(k + 1, st ++ [vs.getD (l.getD k.toNat ins0).n.toNat el0], v44), ?_, fr15.u4.u4.u4.u4.u4.u4.u4.u4.u4.u1, (Hp.conv (hH46.sub (sQ (sQ sR))) (by simp; done)), rfl, (congrArg I (by rfl)), ?_, ?_, ?_, ?_⟩
       ·((try dsimp only); omega)
       ·omega
       ·omega
       ·exact ev_1 h0 ‹k < _› hst ‹(List.getD l k.toNat ins0).op = 1› ⟨by omega, by omega⟩
       ·(rw [deep_next h0 ‹k < _›, hdp, st_push (.inl ‹(List.getD l k.toNat ins0).op = 1›)]; simp; done)
    ·refine SR <| vm e8_15 <| vm e8_15 <| V (run_lenSl (hH22.sl (i := 1) rfl) rfl underlying37 rfl) <| V (run_sub rfl rfl (by omega)) <| V (run_indexAddrS (hH22.sl (i := 1) rfl) underlying37 sizeOf40 rfl rfl (by have := (deep_pop hr h0 ‹k < _› hdp ‹¬ (List.getD l k.toNat ins0).op = 1› ‹¬ (List.getD l k.toNat ins0).op = 2›); omega)) <| V (run_ldElS (hH22.sl (i := 1) rfl) underlying40 rfl rfl rfl (by have := (deep_pop hr h0 ‹k < _› hdp ‹¬ (List.getD l k.toNat ins0).op = 1› ‹¬ (List.getD l k.toNat ins0).op = 2›); omega)) <| RL.new rfl hH22 (f := fun b => (.pointer (some ⟨b, 0, none⟩))) (run_alloc zero_el) <| fun b49 w47 hH48 => RL.set hH48 (i := 0) rfl (run_stEl rfl rfl rfl (hH48.blk (i := 0) rfl)) <| fun w50 hH51 => ?_
     simp only [z2] at hH51
     refine RL.nil <| CW.seq <| SR <| va (v := I 2) rfl <| RL.nil <| CW.block <| have hpo := (deep_pop hr h0 ‹k < _› hdp ‹¬ (List.getD l k.toNat ins0).op = 1› ‹¬ (List.getD l k.toNat ins0).op = 2›); CW.loop (G := Int × El) (fun ⟨j, e1⟩ s' w' => (Fr (12 :: (rg 63 28 [])) _ s') ∧ (Hp w w' (.blk b49 (.cells (elC e1) 40 (0, 0)) :: _)) ∧ (s' 12 = I j) ∧ (2 ≤ j) ∧ (j ≤ (l.getD k.toNat ins0).n + 1) ∧ (e1 = foldE (opE s.sh (l.getD k.toNat ins0).op) (st.drop ((st.length : Int) - (j - 1)).toNat))) (fun ⟨j, e1⟩ => ((l.getD k.toNat ins0).n + 1 - j).toNat) ((2, (st.getD ((st.length : Int) - 1).toNat el0))) ⟨Fr.refl _ _, hH51, rfl, (by omega), (by omega), (by rw [show ((st.length : Int) - (2 - 1)).toNat = st.length - 1 by omega, foldE_last (by intro h; rw [h] at hpo; simp at hpo; omega)]; congr 1; omega)⟩ <| ?_
     rintro ⟨j, e1⟩ sg52 w52 ⟨fr52, hH52, e12_52, j0, jk, he⟩
     have e3_52 := (fr52 3 rfl).trans e3_15
     have e8_52 := (fr52 8 rfl).trans e8_15
     have e9_52 := (fr52 9 rfl).trans e9_15
     have e10_52 := fr52.pp 10 rfl rfl
     have e11_52 := fr52.pp 11 rfl rfl
     refine CW.seq <| SR <| vm e12_52 <| V (fA underlying84 1 rfl sizeOf3 e10_52) <| V (run_ld underlying3 rfl rfl (hH52.cell (i := 1) rfl (v := I _) rfl)) <| V (run_leq rfl rfl) <| RL.nil <| CW.condP rfl (fun h54 => ?_) (fun h54 => ?_)
     ·refine CW.skip <| CW.seq <| CW.block <| SR <| V (fA underlying84 0 rfl sizeOf3 e10_52) <| V (run_ld underlying3 rfl rfl (hH52.cell (i := 1) rfl (v := I _) rfl)) <| V (run_eql rfl rfl) <| RL.nil <| CW.condP rfl (fun h56 => ?_) (fun h56 => ?_)
      ·refine CW.regionS (by kernel_rfl) hH52 (sQ sR) <| fun w57 hH58 => have zh58 := hH58.sub (sQ sR); AT 0 rfl zh58 (fun w hS => run_ldA (cs := [B _, _]) underlying24 rfl rfl e3_52 (rangeAt_cells (hS.blk (i := 3) rfl))) <| AQ 1 rfl zh58 (run_move e8_52) <| AQ 2 rfl zh58 (run_move e8_52) <| AT 3 rfl zh58 (fun w hS => run_lenSl (hS.sl (i := 1) rfl) rfl underlying37 rfl) <| AQ 4 rfl zh58 (run_move e12_52) <| AQ 5 rfl zh58 (run_sub rfl rfl (by omega)) <| AT 6 rfl zh58 (fun w hS => run_indexAddrS (hS.sl (i := 1) rfl) underlying37 sizeOf40 rfl rfl (by omega)) <| AT 7 rfl zh58 (fun w hS => run_ldElS (hS.sl (i := 1) rfl) underlying40 rfl rfl rfl (by omega)) <| A1 8 <| AO.read rfl gnone rfl hH58 (sQ sR) (run_ldEl underlying40 rfl rfl e11_52 (hH58.blk (i := 0) rfl)) <| A1 9 <| AO.callP rfl gnone rfl hH58 (sQ sR) (c_clearanceref07_Join _ _ _  _ (hsh.mono hH58.kw)) (run_call3 call23 rfl rfl rfl) <| fun w61 hH62 => A1 10 <| AO.set rfl gnone hH62 (j := 0) rfl (sQ sR) (run_stEl rfl e11_52 rfl (hH62.blk (i := 0) rfl)) <| fun w65 hH66 => ?_
       simp only [z2] at hH66
       refine AD <| CW.region <| vm e12_52 <| V (run_add rfl rfl (by omega)) <| aI rfl <| RL.nil <| ?_
       refine ⟨(j + 1, _), ?_, fr52.u4.u4.u4.u4.u4, hH66, (congrArg I (by rfl)), ?_, ?_, ?_⟩
       ·((try dsimp only); omega)
       ·omega
       ·omega
       ·(rw [show ((st.length : Int) - (j + 1 - 1)).toNat = ((st.length : Int) - j).toNat by omega, foldE_k (by omega) (by omega), show ((st.length : Int) - j + 1).toNat = ((st.length : Int) - (j - 1)).toNat by omega, ← he]; exact opE_3 ‹(List.getD l k.toNat ins0).op = 3›)
      ·refine CW.regionS (by kernel_rfl) hH52 (sQ sR) <| fun w67 hH68 => have zh68 := hH68.sub (sQ sR); AQ 0 rfl zh68 (run_move e8_52) <| AQ 1 rfl zh68 (run_move e8_52) <| AT 2 rfl zh68 (fun w hS => run_lenSl (hS.sl (i := 1) rfl) rfl underlying37 rfl) <| AQ 3 rfl zh68 (run_move e12_52) <| AQ 4 rfl zh68 (run_sub rfl rfl (by omega)) <| AT 5 rfl zh68 (fun w hS => run_indexAddrS (hS.sl (i := 1) rfl) underlying37 sizeOf40 rfl rfl (by omega)) <| AT 6 rfl zh68 (fun w hS => run_ldElS (hS.sl (i := 1) rfl) underlying40 rfl rfl rfl (by omega)) <| A1 7 <| AO.read rfl gnone rfl hH68 (sQ sR) (run_ldEl underlying40 rfl rfl e11_52 (hH68.blk (i := 0) rfl)) <| A1 8 <| AO.callP rfl gnone rfl hH68 (sQ sR) (c_clearanceref07_Meet _ _  _) (run_call2 call45 rfl rfl) <| fun w71 hH72 => A1 9 <| AO.set rfl gnone hH72 (j := 0) rfl (sQ sR) (run_stEl rfl e11_52 rfl (hH72.blk (i := 0) rfl)) <| fun w75 hH76 => ?_
       simp only [z2] at hH76
       refine AD <| CW.region <| vm e12_52 <| V (run_add rfl rfl (by omega)) <| aI rfl <| RL.nil <| ?_
       refine ⟨(j + 1, _), ?_, fr52.u4.u4.u4.u4.u1.u1.u1, hH76, (congrArg I (by rfl)), ?_, ?_, ?_⟩
       ·((try dsimp only); omega)
       ·omega
       ·omega
       ·(rw [show ((st.length : Int) - (j + 1 - 1)).toNat = ((st.length : Int) - j).toNat by omega, foldE_k (by omega) (by omega), show ((st.length : Int) - j + 1).toNat = ((st.length : Int) - (j - 1)).toNat by omega, ← he]; exact opE_4 ‹¬ (List.getD l k.toNat ins0).op = 3›)
     ·refine CW.exit (id := 2) rfl <| have he3 : e1 = foldE (opE s.sh (l.getD k.toNat ins0).op) (st.drop ((st.length : Int) - (l.getD k.toNat ins0).n).toNat) := (by rw [he]; congr 2; omega); CW.regionD (by kernel_rfl) hH52 <| fun w77 hH78 => have zh78 := hH78.sub sR; AQ 1 rfl zh78 (run_move e8_52) <| AQ 2 rfl zh78 (run_move e8_52) <| AT 3 rfl zh78 (fun w hS => run_lenSl (hS.sl (i := 2) rfl) rfl underlying37 rfl) <| AQ 4 rfl zh78 (fA underlying84 1 rfl sizeOf3 e10_52) <| AT 5 rfl zh78 (fun w hS => run_ld underlying3 rfl rfl (hS.cell (i := 1) rfl (v := I _) rfl)) <| AQ 6 rfl zh78 (run_sub rfl rfl (by omega)) <| AT 9 rfl zh78 (fun w hS => run_ldEl underlying40 rfl rfl e11_52 (hS.blk (i := 0) rfl)) <| AN.three 0 7 10 (by kernel_rfl) ?_ ?_ ?_
      ·refine AO.new rfl gnone rfl hH78 sR (f := fun b => .slice (some ⟨b, 0, none⟩) 0 0) (run_mkE underlying37 sizeOf40) <| fun b81 w79 hH80 => ?_
       (try simp only [clX] at hH80)
       have hH82 := hH80.blkRow 0 8 rfl (by decide)
       refine AN.two 7 10 (by kernel_rfl) ?_ ?_
       ·refine AO.read rfl gnone rfl hH82 (sQ sR) (run_cut (hH82.sl (i := 3) rfl) underlying37 sizeOf40 rfl rfl (by omega)) <| AN.two 8 10 (by kernel_rfl) ?_ ?_
        ·refine AO.app rfl gnone rfl hH82 (j := 0) rfl (fun _ => (sQ sR)) ((hH82.sl (i := 3) rfl).cut _ (by (have := (deep_pop hr h0 ‹k < _› hdp ‹¬ (List.getD l k.toNat ins0).op = 1› ‹¬ (List.getD l k.toNat ins0).op = 2›); omega))) rfl rfl underlying37 rfl rfl (size := 8) (bytes := 64) rfl rfl rfl (by decide) (fun u hu => els_one st u (List.mem_of_mem_take hu)) (by omega) (by simp only [maxLen]; omega) <| fun v87 w85 hH86 => ?_
         simp only [z2] at hH86
         refine A1 10 <| AO.new rfl gnone rfl hH86 (sQ sR) (f := fun b => .slice (some ⟨b, 0, none⟩) 1 1) (run_mkEl1 underlying37 rfl rfl rfl rfl) <| fun b90 w88 hH89 => ?_
         (try simp only [clX] at hH89)
         refine A1 11 <| AO.app rfl gnone rfl hH89 (j := 1) rfl (fun _ => (sQ (sQ sR))) (Hp.slFlat elL_len hH89 (i := 0) (l := [_]) rfl (by simp [maxLen])) rfl rfl underlying37 rfl rfl (size := 8) (bytes := 64) rfl rfl rfl (by decide) (els_one _) (by show (0 + ((st.length : Int) - (l.getD k.toNat ins0).n).toNat + 1) * _ ≤ _; omega) (by simp only [maxLen]; ((show 0 + ((st.length : Int) - (l.getD k.toNat ins0).n).toNat + 1 ≤ _; omega))) <| fun v93 w91 hH92 => ?_
         simp only [z2] at hH92
         refine AQ 12 rfl (hH92.sub (sQ (sQ sR))) (run_assign (by conv => lhs; whnf)) ?_
         refine AD <| CW.region <| vm e9_52 <| V (run_add rfl rfl (by omega)) <| aI rfl <| RL.nil <| have hH94 := Hp.swap (hH92.perm (((pC pR).trans pS).trans (pC pR))) (i := 3) (by simp only [List.length_cons]; omega); ?_
         simp only [z2] at hH94
         refine ⟨(k + 1, st.take ((st.length : Int) - (l.getD k.toNat ins0).n).toNat ++ [e1], v93), ?_, (((fr15.u4.u4.u4.u4.u4.u1.u1.u1).t fr52 rfl)).u4.u4.u4.u4.u4, (Hp.conv (hH94.sub (sQ (sQ (sQ sR)))) (by rw [flat_take elL_len, List.length_append, List.length_take, Nat.min_eq_left (by omega), List.flatMap_append, Nat.zero_add]; done)), rfl, (congrArg I (by rfl)), ?_, ?_, ?_, ?_⟩
         ·((try dsimp only); omega)
         ·omega
         ·omega
         ·(rw [he3]; exact ev_3i h0 ‹k < _› hst ‹¬ (List.getD l k.toNat ins0).op = 1› ‹¬ (List.getD l k.toNat ins0).op = 2› rfl (by have := (deep_pop hr h0 ‹k < _› hdp ‹¬ (List.getD l k.toNat ins0).op = 1› ‹¬ (List.getD l k.toNat ins0).op = 2›); omega))
         ·(have hq := (deep_pop hr h0 ‹k < _› hdp ‹¬ (List.getD l k.toNat ins0).op = 1› ‹¬ (List.getD l k.toNat ins0).op = 2›); rw [hq.2.2, List.length_append, List.length_take, List.length_singleton]; congr 1 <;> omega)
        ·refine AO.new rfl gnone rfl hH82 (sQ sR) (f := fun b => .slice (some ⟨b, 0, none⟩) 1 1) (run_mkEl1 underlying37 rfl rfl rfl rfl) <| fun b97 w95 hH96 => ?_
         (try simp only [clX] at hH96)
         refine A1 8 <| AO.app rfl gnone rfl hH96 (j := 1) rfl (fun _ => (sQ (sQ sR))) ((hH96.sl (i := 4) rfl).cut _ (by (have := (deep_pop hr h0 ‹k < _› hdp ‹¬ (List.getD l k.toNat ins0).op = 1› ‹¬ (List.getD l k.toNat ins0).op = 2›); omega))) rfl rfl underlying37 rfl rfl (size := 8) (bytes := 64) rfl rfl rfl (by decide) (fun u hu => els_one st u (List.mem_of_mem_take hu)) (by omega) (by simp only [maxLen]; omega) <| fun v100 w98 hH99 => ?_
         simp only [z2] at hH99
         refine A1 11 <| AO.app rfl gnone rfl hH99 (j := 1) rfl (fun _ => (sQ (sQ sR))) (Hp.slFlat elL_len hH99 (i := 0) (l := [_]) rfl (by simp [maxLen])) rfl rfl underlying37 rfl rfl (size := 8) (bytes := 64) rfl rfl rfl (by decide) (els_one _) (by show (0 + ((st.length : Int) - (l.getD k.toNat ins0).n).toNat + 1) * _ ≤ _; omega) (by simp only [maxLen]; ((show 0 + ((st.length : Int) - (l.getD k.toNat ins0).n).toNat + 1 ≤ _; omega))) <| fun v103 w101 hH102 => ?_
         simp only [z2] at hH102
         refine AQ 12 rfl (hH102.sub (sQ (sQ sR))) (run_assign (by conv => lhs; whnf)) ?_
         refine AD <| CW.region <| vm e9_52 <| V (run_add rfl rfl (by omega)) <| aI rfl <| RL.nil <| have hH104 := Hp.swap (hH102.perm (((pC pR).trans pS).trans (pC pR))) (i := 3) (by simp only [List.length_cons]; omega); ?_
         simp only [z2] at hH104
         refine ⟨(k + 1, st.take ((st.length : Int) - (l.getD k.toNat ins0).n).toNat ++ [e1], v103), ?_, (((fr15.u4.u4.u4.u4.u4.u1.u1.u1).t fr52 rfl)).u4.u4.u4.u4.u4, (Hp.conv (hH104.sub (sQ (sQ (sQ sR)))) (by rw [flat_take elL_len, List.length_append, List.length_take, Nat.min_eq_left (by omega), List.flatMap_append, Nat.zero_add]; rfl)), rfl, (congrArg I (by rfl)), ?_, ?_, ?_, ?_⟩
         ·((try dsimp only); omega)
         ·omega
         ·omega
         ·(rw [he3]; exact ev_3i h0 ‹k < _› hst ‹¬ (List.getD l k.toNat ins0).op = 1› ‹¬ (List.getD l k.toNat ins0).op = 2› rfl (by have := (deep_pop hr h0 ‹k < _› hdp ‹¬ (List.getD l k.toNat ins0).op = 1› ‹¬ (List.getD l k.toNat ins0).op = 2›); omega))
         ·(have hq := (deep_pop hr h0 ‹k < _› hdp ‹¬ (List.getD l k.toNat ins0).op = 1› ‹¬ (List.getD l k.toNat ins0).op = 2›); rw [hq.2.2, List.length_append, List.length_take, List.length_singleton]; congr 1 <;> omega)
       ·refine AO.new rfl gnone rfl hH82 (sQ sR) (f := fun b => .slice (some ⟨b, 0, none⟩) 1 1) (run_mkEl1 underlying37 rfl rfl rfl rfl) <| fun b107 w105 hH106 => ?_
        (try simp only [clX] at hH106)
        refine A1 7 <| AO.read rfl gnone rfl hH106 (sQ (sQ sR)) (run_cut (hH106.sl (i := 4) rfl) underlying37 sizeOf40 rfl rfl (by omega)) <| A1 8 <| AO.app rfl gnone rfl hH106 (j := 1) rfl (fun _ => (sQ (sQ sR))) ((hH106.sl (i := 4) rfl).cut _ (by (have := (deep_pop hr h0 ‹k < _› hdp ‹¬ (List.getD l k.toNat ins0).op = 1› ‹¬ (List.getD l k.toNat ins0).op = 2›); omega))) rfl rfl underlying37 rfl rfl (size := 8) (bytes := 64) rfl rfl rfl (by decide) (fun u hu => els_one st u (List.mem_of_mem_take hu)) (by omega) (by simp only [maxLen]; omega) <| fun v112 w110 hH111 => ?_
        simp only [z2] at hH111
        refine A1 11 <| AO.app rfl gnone rfl hH111 (j := 1) rfl (fun _ => (sQ (sQ sR))) (Hp.slFlat elL_len hH111 (i := 0) (l := [_]) rfl (by simp [maxLen])) rfl rfl underlying37 rfl rfl (size := 8) (bytes := 64) rfl rfl rfl (by decide) (els_one _) (by show (0 + ((st.length : Int) - (l.getD k.toNat ins0).n).toNat + 1) * _ ≤ _; omega) (by simp only [maxLen]; ((show 0 + ((st.length : Int) - (l.getD k.toNat ins0).n).toNat + 1 ≤ _; omega))) <| fun v115 w113 hH114 => ?_
        simp only [z2] at hH114
        refine AQ 12 rfl (hH114.sub (sQ (sQ sR))) (run_assign (by conv => lhs; whnf)) ?_
        refine AD <| CW.region <| vm e9_52 <| V (run_add rfl rfl (by omega)) <| aI rfl <| RL.nil <| have hH116 := Hp.swap (hH114.perm (((pC pR).trans pS).trans (pC pR))) (i := 3) (by simp only [List.length_cons]; omega); ?_
        simp only [z2] at hH116
        refine ⟨(k + 1, st.take ((st.length : Int) - (l.getD k.toNat ins0).n).toNat ++ [e1], v115), ?_, (((fr15.u4.u4.u4.u4.u4.u1.u1.u1).t fr52 rfl)).u4.u4.u4.u4.u4, (Hp.conv (hH116.sub (sQ (sQ (sQ sR)))) (by rw [flat_take elL_len, List.length_append, List.length_take, Nat.min_eq_left (by omega), List.flatMap_append, Nat.zero_add]; rfl)), rfl, (congrArg I (by rfl)), ?_, ?_, ?_, ?_⟩
        ·((try dsimp only); omega)
        ·omega
        ·omega
        ·(rw [he3]; exact ev_3i h0 ‹k < _› hst ‹¬ (List.getD l k.toNat ins0).op = 1› ‹¬ (List.getD l k.toNat ins0).op = 2› rfl (by have := (deep_pop hr h0 ‹k < _› hdp ‹¬ (List.getD l k.toNat ins0).op = 1› ‹¬ (List.getD l k.toNat ins0).op = 2›); omega))
        ·(have hq := (deep_pop hr h0 ‹k < _› hdp ‹¬ (List.getD l k.toNat ins0).op = 1› ‹¬ (List.getD l k.toNat ins0).op = 2›); rw [hq.2.2, List.length_append, List.length_take, List.length_singleton]; congr 1 <;> omega)
      ·refine AO.read rfl gnone rfl hH78 sR (run_cut (hH78.sl (i := 2) rfl) underlying37 sizeOf40 rfl rfl (by omega)) <| AN.two 0 10 (by kernel_rfl) ?_ ?_
       ·refine AO.new rfl gnone rfl hH78 sR (f := fun b => .slice (some ⟨b, 0, none⟩) 0 0) (run_mkE underlying37 sizeOf40) <| fun b121 w119 hH120 => ?_
        (try simp only [clX] at hH120)
        have hH122 := hH120.blkRow 0 8 rfl (by decide)
        refine AN.two 8 10 (by kernel_rfl) ?_ ?_
        ·refine AO.app rfl gnone rfl hH122 (j := 0) rfl (fun _ => (sQ sR)) ((hH122.sl (i := 3) rfl).cut _ (by (have := (deep_pop hr h0 ‹k < _› hdp ‹¬ (List.getD l k.toNat ins0).op = 1› ‹¬ (List.getD l k.toNat ins0).op = 2›); omega))) rfl rfl underlying37 rfl rfl (size := 8) (bytes := 64) rfl rfl rfl (by decide) (fun u hu => els_one st u (List.mem_of_mem_take hu)) (by omega) (by simp only [maxLen]; omega) <| fun v125 w123 hH124 => ?_
         simp only [z2] at hH124
         refine A1 10 <| AO.new rfl gnone rfl hH124 (sQ sR) (f := fun b => .slice (some ⟨b, 0, none⟩) 1 1) (run_mkEl1 underlying37 rfl rfl rfl rfl) <| fun b128 w126 hH127 => ?_
         (try simp only [clX] at hH127)
         refine A1 11 <| AO.app rfl gnone rfl hH127 (j := 1) rfl (fun _ => (sQ (sQ sR))) (Hp.slFlat elL_len hH127 (i := 0) (l := [_]) rfl (by simp [maxLen])) rfl rfl underlying37 rfl rfl (size := 8) (bytes := 64) rfl rfl rfl (by decide) (els_one _) (by show (0 + ((st.length : Int) - (l.getD k.toNat ins0).n).toNat + 1) * _ ≤ _; omega) (by simp only [maxLen]; ((show 0 + ((st.length : Int) - (l.getD k.toNat ins0).n).toNat + 1 ≤ _; omega))) <| fun v131 w129 hH130 => ?_
         simp only [z2] at hH130
         refine AQ 12 rfl (hH130.sub (sQ (sQ sR))) (run_assign (by conv => lhs; whnf)) ?_
         refine AD <| CW.region <| vm e9_52 <| V (run_add rfl rfl (by omega)) <| aI rfl <| RL.nil <| have hH132 := Hp.swap (hH130.perm (((pC pR).trans pS).trans (pC pR))) (i := 3) (by simp only [List.length_cons]; omega); ?_
         simp only [z2] at hH132
         refine ⟨(k + 1, st.take ((st.length : Int) - (l.getD k.toNat ins0).n).toNat ++ [e1], v131), ?_, (((fr15.u4.u4.u4.u4.u4.u1.u1.u1).t fr52 rfl)).u4.u4.u4.u4.u4, (Hp.conv (hH132.sub (sQ (sQ (sQ sR)))) (by rw [flat_take elL_len, List.length_append, List.length_take, Nat.min_eq_left (by omega), List.flatMap_append, Nat.zero_add]; done)), rfl, (congrArg I (by rfl)), ?_, ?_, ?_, ?_⟩
         ·((try dsimp only); omega)
         ·omega
         ·omega
         ·(rw [he3]; exact ev_3i h0 ‹k < _› hst ‹¬ (List.getD l k.toNat ins0).op = 1› ‹¬ (List.getD l k.toNat ins0).op = 2› rfl (by have := (deep_pop hr h0 ‹k < _› hdp ‹¬ (List.getD l k.toNat ins0).op = 1› ‹¬ (List.getD l k.toNat ins0).op = 2›); omega))
         ·(have hq := (deep_pop hr h0 ‹k < _› hdp ‹¬ (List.getD l k.toNat ins0).op = 1› ‹¬ (List.getD l k.toNat ins0).op = 2›); rw [hq.2.2, List.length_append, List.length_take, List.length_singleton]; congr 1 <;> omega)
        ·refine AO.new rfl gnone rfl hH122 (sQ sR) (f := fun b => .slice (some ⟨b, 0, none⟩) 1 1) (run_mkEl1 underlying37 rfl rfl rfl rfl) <| fun b135 w133 hH134 => ?_
         (try simp only [clX] at hH134)
         refine A1 8 <| AO.app rfl gnone rfl hH134 (j := 1) rfl (fun _ => (sQ (sQ sR))) ((hH134.sl (i := 4) rfl).cut _ (by (have := (deep_pop hr h0 ‹k < _› hdp ‹¬ (List.getD l k.toNat ins0).op = 1› ‹¬ (List.getD l k.toNat ins0).op = 2›); omega))) rfl rfl underlying37 rfl rfl (size := 8) (bytes := 64) rfl rfl rfl (by decide) (fun u hu => els_one st u (List.mem_of_mem_take hu)) (by omega) (by simp only [maxLen]; omega) <| fun v138 w136 hH137 => ?_
         simp only [z2] at hH137
         refine A1 11 <| AO.app rfl gnone rfl hH137 (j := 1) rfl (fun _ => (sQ (sQ sR))) (Hp.slFlat elL_len hH137 (i := 0) (l := [_]) rfl (by simp [maxLen])) rfl rfl underlying37 rfl rfl (size := 8) (bytes := 64) rfl rfl rfl (by decide) (els_one _) (by show (0 + ((st.length : Int) - (l.getD k.toNat ins0).n).toNat + 1) * _ ≤ _; omega) (by simp only [maxLen]; ((show 0 + ((st.length : Int) - (l.getD k.toNat ins0).n).toNat + 1 ≤ _; omega))) <| fun v141 w139 hH140 => ?_
         simp only [z2] at hH140
         refine AQ 12 rfl (hH140.sub (sQ (sQ sR))) (run_assign (by conv => lhs; whnf)) ?_
         refine AD <| CW.region <| vm e9_52 <| V (run_add rfl rfl (by omega)) <| aI rfl <| RL.nil <| have hH142 := Hp.swap (hH140.perm (((pC pR).trans pS).trans (pC pR))) (i := 3) (by simp only [List.length_cons]; omega); ?_
         simp only [z2] at hH142
         refine ⟨(k + 1, st.take ((st.length : Int) - (l.getD k.toNat ins0).n).toNat ++ [e1], v141), ?_, (((fr15.u4.u4.u4.u4.u4.u1.u1.u1).t fr52 rfl)).u4.u4.u4.u4.u4, (Hp.conv (hH142.sub (sQ (sQ (sQ sR)))) (by rw [flat_take elL_len, List.length_append, List.length_take, Nat.min_eq_left (by omega), List.flatMap_append, Nat.zero_add]; rfl)), rfl, (congrArg I (by rfl)), ?_, ?_, ?_, ?_⟩
         ·((try dsimp only); omega)
         ·omega
         ·omega
         ·(rw [he3]; exact ev_3i h0 ‹k < _› hst ‹¬ (List.getD l k.toNat ins0).op = 1› ‹¬ (List.getD l k.toNat ins0).op = 2› rfl (by have := (deep_pop hr h0 ‹k < _› hdp ‹¬ (List.getD l k.toNat ins0).op = 1› ‹¬ (List.getD l k.toNat ins0).op = 2›); omega))
         ·(have hq := (deep_pop hr h0 ‹k < _› hdp ‹¬ (List.getD l k.toNat ins0).op = 1› ‹¬ (List.getD l k.toNat ins0).op = 2›); rw [hq.2.2, List.length_append, List.length_take, List.length_singleton]; congr 1 <;> omega)
       ·refine AO.new rfl gnone rfl hH78 sR (f := fun b => .slice (some ⟨b, 0, none⟩) 1 1) (run_mkEl1 underlying37 rfl rfl rfl rfl) <| fun b145 w143 hH144 => ?_
        (try simp only [clX] at hH144)
        refine A1 0 <| AO.new rfl gnone rfl hH144 (sQ sR) (f := fun b => .slice (some ⟨b, 0, none⟩) 0 0) (run_mkE underlying37 sizeOf40) <| fun b148 w146 hH147 => ?_
        (try simp only [clX] at hH147)
        have hH149 := hH147.blkRow 0 8 rfl (by decide)
        refine A1 8 <| AO.app rfl gnone rfl hH149 (j := 0) rfl (fun _ => (sQ (sQ sR))) ((hH149.sl (i := 4) rfl).cut _ (by (have := (deep_pop hr h0 ‹k < _› hdp ‹¬ (List.getD l k.toNat ins0).op = 1› ‹¬ (List.getD l k.toNat ins0).op = 2›); omega))) rfl rfl underlying37 rfl rfl (size := 8) (bytes := 64) rfl rfl rfl (by decide) (fun u hu => els_one st u (List.mem_of_mem_take hu)) (by omega) (by simp only [maxLen]; omega) <| fun v152 w150 hH151 => ?_
        simp only [z2] at hH151
        refine A1 11 <| AO.app rfl gnone rfl hH151 (j := 0) rfl (fun _ => (sQ (sQ sR))) (Hp.slFlat elL_len hH151 (i := 1) (l := [_]) rfl (by simp [maxLen])) rfl rfl underlying37 rfl rfl (size := 8) (bytes := 64) rfl rfl rfl (by decide) (els_one _) (by show (0 + ((st.length : Int) - (l.getD k.toNat ins0).n).toNat + 1) * _ ≤ _; omega) (by simp only [maxLen]; ((show 0 + ((st.length : Int) - (l.getD k.toNat ins0).n).toNat + 1 ≤ _; omega))) <| fun v155 w153 hH154 => ?_
        simp only [z2] at hH154
        refine AQ 12 rfl (hH154.sub (sQ (sQ sR))) (run_assign (by conv => lhs; whnf)) ?_
        refine AD <| CW.region <| vm e9_52 <| V (run_add rfl rfl (by omega)) <| aI rfl <| RL.nil <| have hH156 := Hp.swap hH154 (i := 3) (by simp only [List.length_cons]; omega); ?_
        simp only [z2] at hH156
        refine ⟨(k + 1, st.take ((st.length : Int) - (l.getD k.toNat ins0).n).toNat ++ [e1], v155), ?_, (((fr15.u4.u4.u4.u4.u4.u1.u1.u1).t fr52 rfl)).u4.u4.u4.u4.u4, (Hp.conv (hH156.sub (sQ (sQ (sQ sR)))) (by rw [flat_take elL_len, List.length_append, List.length_take, Nat.min_eq_left (by omega), List.flatMap_append, Nat.zero_add]; rfl)), rfl, (congrArg I (by rfl)), ?_, ?_, ?_, ?_⟩
        ·((try dsimp only); omega)
        ·omega
        ·omega
        ·(rw [he3]; exact ev_3i h0 ‹k < _› hst ‹¬ (List.getD l k.toNat ins0).op = 1› ‹¬ (List.getD l k.toNat ins0).op = 2› rfl (by have := (deep_pop hr h0 ‹k < _› hdp ‹¬ (List.getD l k.toNat ins0).op = 1› ‹¬ (List.getD l k.toNat ins0).op = 2›); omega))
        ·(have hq := (deep_pop hr h0 ‹k < _› hdp ‹¬ (List.getD l k.toNat ins0).op = 1› ‹¬ (List.getD l k.toNat ins0).op = 2›); rw [hq.2.2, List.length_append, List.length_take, List.length_singleton]; congr 1 <;> omega)
      ·refine AO.new rfl gnone rfl hH78 sR (f := fun b => .slice (some ⟨b, 0, none⟩) 1 1) (run_mkEl1 underlying37 rfl rfl rfl rfl) <| fun b159 w157 hH158 => ?_
       (try simp only [clX] at hH158)
       refine AN.two 0 7 (by kernel_rfl) ?_ ?_
       ·refine AO.new rfl gnone rfl hH158 (sQ sR) (f := fun b => .slice (some ⟨b, 0, none⟩) 0 0) (run_mkE underlying37 sizeOf40) <| fun b162 w160 hH161 => ?_
        (try simp only [clX] at hH161)
        have hH163 := hH161.blkRow 0 8 rfl (by decide)
        refine A1 7 <| AO.read rfl gnone rfl hH163 (sQ (sQ sR)) (run_cut (hH163.sl (i := 4) rfl) underlying37 sizeOf40 rfl rfl (by omega)) <| A1 8 <| AO.app rfl gnone rfl hH163 (j := 0) rfl (fun _ => (sQ (sQ sR))) ((hH163.sl (i := 4) rfl).cut _ (by (have := (deep_pop hr h0 ‹k < _› hdp ‹¬ (List.getD l k.toNat ins0).op = 1› ‹¬ (List.getD l k.toNat ins0).op = 2›); omega))) rfl rfl underlying37 rfl rfl (size := 8) (bytes := 64) rfl rfl rfl (by decide) (fun u hu => els_one st u (List.mem_of_mem_take hu)) (by omega) (by simp only [maxLen]; omega) <| fun v168 w166 hH167 => ?_
        simp only [z2] at hH167
        refine A1 11 <| AO.app rfl gnone rfl hH167 (j := 0) rfl (fun _ => (sQ (sQ sR))) (Hp.slFlat elL_len hH167 (i := 1) (l := [_]) rfl (by simp [maxLen])) rfl rfl underlying37 rfl rfl (size := 8) (bytes := 64) rfl rfl rfl (by decide) (els_one _) (by show (0 + ((st.length : Int) - (l.getD k.toNat ins0).n).toNat + 1) * _ ≤ _; omega) (by simp only [maxLen]; ((show 0 + ((st.length : Int) - (l.getD k.toNat ins0).n).toNat + 1 ≤ _; omega))) <| fun v171 w169 hH170 => ?_
        simp only [z2] at hH170
        refine AQ 12 rfl (hH170.sub (sQ (sQ sR))) (run_assign (by conv => lhs; whnf)) ?_
        refine AD <| CW.region <| vm e9_52 <| V (run_add rfl rfl (by omega)) <| aI rfl <| RL.nil <| have hH172 := Hp.swap hH170 (i := 3) (by simp only [List.length_cons]; omega); ?_
        simp only [z2] at hH172
        refine ⟨(k + 1, st.take ((st.length : Int) - (l.getD k.toNat ins0).n).toNat ++ [e1], v171), ?_, (((fr15.u4.u4.u4.u4.u4.u1.u1.u1).t fr52 rfl)).u4.u4.u4.u4.u4, (Hp.conv (hH172.sub (sQ (sQ (sQ sR)))) (by rw [flat_take elL_len, List.length_append, List.length_take, Nat.min_eq_left (by omega), List.flatMap_append, Nat.zero_add]; rfl)), rfl, (congrArg I (by rfl)), ?_, ?_, ?_, ?_⟩
        ·((try dsimp only); omega)
        ·omega
        ·omega
        ·(rw [he3]; exact ev_3i h0 ‹k < _› hst ‹¬ (List.getD l k.toNat ins0).op = 1› ‹¬ (List.getD l k.toNat ins0).op = 2› rfl (by have := (deep_pop hr h0 ‹k < _› hdp ‹¬ (List.getD l k.toNat ins0).op = 1› ‹¬ (List.getD l k.toNat ins0).op = 2›); omega))
        ·(have hq := (deep_pop hr h0 ‹k < _› hdp ‹¬ (List.getD l k.toNat ins0).op = 1› ‹¬ (List.getD l k.toNat ins0).op = 2›); rw [hq.2.2, List.length_append, List.length_take, List.length_singleton]; congr 1 <;> omega)
       ·refine AO.read rfl gnone rfl hH158 (sQ sR) (run_cut (hH158.sl (i := 3) rfl) underlying37 sizeOf40 rfl rfl (by omega)) <| A1 0 <| AO.new rfl gnone rfl hH158 (sQ sR) (f := fun b => .slice (some ⟨b, 0, none⟩) 0 0) (run_mkE underlying37 sizeOf40) <| fun b177 w175 hH176 => ?_
        (try simp only [clX] at hH176)
        have hH178 := hH176.blkRow 0 8 rfl (by decide)
        refine A1 8 <| AO.app rfl gnone rfl hH178 (j := 0) rfl (fun _ => (sQ (sQ sR))) ((hH178.sl (i := 4) rfl).cut _ (by (have := (deep_pop hr h0 ‹k < _› hdp ‹¬ (List.getD l k.toNat ins0).op = 1› ‹¬ (List.getD l k.toNat ins0).op = 2›); omega))) rfl rfl underlying37 rfl rfl (size := 8) (bytes := 64) rfl rfl rfl (by decide) (fun u hu => els_one st u (List.mem_of_mem_take hu)) (by omega) (by simp only [maxLen]; omega) <| fun v181 w179 hH180 => ?_
        simp only [z2] at hH180
        refine A1 11 <| AO.app rfl gnone rfl hH180 (j := 0) rfl (fun _ => (sQ (sQ sR))) (Hp.slFlat elL_len hH180 (i := 1) (l := [_]) rfl (by simp [maxLen])) rfl rfl underlying37 rfl rfl (size := 8) (bytes := 64) rfl rfl rfl (by decide) (els_one _) (by show (0 + ((st.length : Int) - (l.getD k.toNat ins0).n).toNat + 1) * _ ≤ _; omega) (by simp only [maxLen]; ((show 0 + ((st.length : Int) - (l.getD k.toNat ins0).n).toNat + 1 ≤ _; omega))) <| fun v184 w182 hH183 => ?_
        simp only [z2] at hH183
        refine AQ 12 rfl (hH183.sub (sQ (sQ sR))) (run_assign (by conv => lhs; whnf)) ?_
        refine AD <| CW.region <| vm e9_52 <| V (run_add rfl rfl (by omega)) <| aI rfl <| RL.nil <| have hH185 := Hp.swap hH183 (i := 3) (by simp only [List.length_cons]; omega); ?_
        simp only [z2] at hH185
        refine ⟨(k + 1, st.take ((st.length : Int) - (l.getD k.toNat ins0).n).toNat ++ [e1], v184), ?_, (((fr15.u4.u4.u4.u4.u4.u1.u1.u1).t fr52 rfl)).u4.u4.u4.u4.u4, (Hp.conv (hH185.sub (sQ (sQ (sQ sR)))) (by rw [flat_take elL_len, List.length_append, List.length_take, Nat.min_eq_left (by omega), List.flatMap_append, Nat.zero_add]; rfl)), rfl, (congrArg I (by rfl)), ?_, ?_, ?_, ?_⟩
        ·((try dsimp only); omega)
        ·omega
        ·omega
        ·(rw [he3]; exact ev_3i h0 ‹k < _› hst ‹¬ (List.getD l k.toNat ins0).op = 1› ‹¬ (List.getD l k.toNat ins0).op = 2› rfl (by have := (deep_pop hr h0 ‹k < _› hdp ‹¬ (List.getD l k.toNat ins0).op = 1› ‹¬ (List.getD l k.toNat ins0).op = 2›); omega))
        ·(have hq := (deep_pop hr h0 ‹k < _› hdp ‹¬ (List.getD l k.toNat ins0).op = 1› ‹¬ (List.getD l k.toNat ins0).op = 2›); rw [hq.2.2, List.length_append, List.length_take, List.length_singleton]; congr 1 <;> omega)
  ·refine CW.exit (id := 0) rfl <| SR <| vm e8_15 <| V (run_indexAddrS (hH15.sl (i := 0) rfl) underlying37 sizeOf40 rfl rfl (by have := deep_fin hr hk ‹¬ k < _› hdp; omega)) <| V (run_ldElS (hH15.sl (i := 0) rfl) underlying40 rfl rfl rfl (by have := deep_fin hr hk ‹¬ k < _› hdp; omega)) <| RL.set hH15 (i := 1) rfl (run_stEl rfl e6_15 rfl (hH15.blk (i := 1) rfl)) <| fun w186 hH187 => ?_
   simp only [z2] at hH187
   refine va (v := B true) rfl <| RL.nil <| CW.ret <| outCT Tryz.results24 e6_15 rfl hH187 (i := 1) rfl underlying40 rfl (by rw [elC_size]; rfl) ⟨?_, hH187.below⟩
   (rw [ev_end hr hk ‹¬ k < _› hst]; rfl)
theorem c_tally_table_place (b : Nat) (r : Rl) (d s : Int) (vw vj : Value) (a : BitVec 64) (w : World) (hb : w.heap[b]? = some (.cells (tabL r d s vw vj).toArray 102 (0, 0))) (hW : Sl w vw 1 (wordsT r (pts r).toNat).length ((wordsT r (pts r).toNat).map U)) : Calls Tryz.prog 53 #[.pointer (some ⟨b, 0, none⟩), U a] w (Pure (I (plW r a)) w) := by
 have hp := pts_bd r
 have hpp : pts r = max 0 (min r.n 64) := rfl
 have hwl := wordsT_len (r := r) (k := (pts r).toNat)
 refine enter Tryz.func53 rfl Tryz.ntmps53 rfl <| have hH := Hp.start w; SR <| va (v := I 0) rfl <| RL.nil <| CW.seq <| SR <| vm (v := Pn _ _) rfl <| V (run_nilCheck rfl) <| V (fA underlying102 68 rfl sizeOf99 rfl) <| V (run_ld underlying99 rfl rfl (hH.extCell hb tab_w)) <| V (run_lenSl (hW.hp hH) rfl underlying99 rfl) <| vm (v := I 0) rfl <| RL.nil <| CW.block <| CW.loop (G := Int) (fun k s' w' => (Fr (rg 4 3 (rg 12 10 [])) _ s') ∧ (Hp w w' _) ∧ (s' 12 = I k) ∧ (0 ≤ k) ∧ (k ≤ pts r) ∧ (∀ j : Int, 0 ≤ j → j < k → belowR r j ≠ a)) (fun k => (pts r - k).toNat) (0) ⟨Fr.refl _ _, hH, rfl, (by omega), (by omega), fun j a b => absurd b (by omega)⟩ <| ?_
 rintro k sg1 w1 ⟨fr1, hH1, e12_1, h0, hk, hf⟩
 have e1_1 := fr1.uu 1 rfl rfl
 have e10_1 := (fr1 10 rfl).trans (by conv => lhs; whnf)
 have e11_1 := fr1.ii 11 rfl rfl
 refine SR <| V (run_lss e12_1 e11_1) <| RL.nil <| CW.seq <| CW.condP rfl (fun h3 => ?_) (fun h3 => ?_)
 ·refine CW.skip <| CW.seq <| CW.block <| SR <| vm e12_1 <| V (run_indexAddrS (hW.hp hH1) underlying99 sizeOf38 e10_1 e12_1 (by omega)) <| V (run_ld underlying38 rfl rfl (words_cell (hW.hp hH1) (by omega))) <| aI rfl <| aU rfl <| RL.nil <| SR <| mU rfl <| vm e1_1 <| V (run_eqlU rfl rfl) <| RL.nil <| CW.condP rfl (fun h5 => ?_) (fun h5 => ?_)
  ·refine SR <| mI rfl <| aI rfl <| RL.nil <| CW.ret <| outP1 Tryz.results53 (congrArg I ?_) hH1.below
   exact (pl_yes h0 (by omega) ‹_› hf).symm
  ·refine CW.skip <| CW.region <| V (run_add e12_1 rfl (by omega)) <| mI rfl <| RL.nil <| ?_
   refine ⟨k + 1, ?_, fr1.u4.u4.u1.u1.u1, hH1, (congrArg I (by rfl)), ?_, ?_, ?_⟩
   ·((try dsimp only); omega)
   ·omega
   ·omega
   ·exact fun j a b => if e : j = k then e ▸ ‹¬ belowR r k = _› else hf j a (by omega)
 ·refine CW.exit (id := 0) rfl <| SR <| va (v := I (-1)) rfl <| RL.nil <| CW.ret <| outP1 Tryz.results53 (congrArg I ?_) hH1.below
  exact (pl_no (k := k) (by omega) hf).symm
end Go.Proofs.YtdfbimlpondblaaGreatDoor.W
