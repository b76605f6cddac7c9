/-
  The walks of the functions that the laws of this seat reach, part 1: each returns what its plain counterpart tells, and turns nothing that was there.
-/
import Derived.Test.YtdfbimlpondblaaDoorProg
import Derived.Test.YtdfbimlpondblaaDoorEnv
import Derived.Test.YtdfbimlpondblaaDoorPlain
import Derived.Test.YtdfbimlpondblaaDoorBase
import Derived.Tactics
import Derived.Tactics2
import Derived.Defers
import Derived.Laws.Pointers
import Derived.Laws.LoneSync
import Derived.RegionTactic
import Derived.RegionCalls
import Derived.ChangeAlike
import Derived.Test.YtdfbimlpondblaaDoorOrd
import Derived.Test.YtdfbimlpondblaaDoorRel
import Derived.Test.YtdfbimlpondblaaDoorClo
import Derived.Test.YtdfbimlpondblaaDoorCov
import Derived.Test.YtdfbimlpondblaaDoorArr
import Derived.Test.YtdfbimlpondblaaDoorHas
import Derived.Test.YtdfbimlpondblaaDoorStr
import Derived.Test.YtdfbimlpondblaaDoorVu
import Derived.Test.YtdfbimlpondblaaDoorGrd
import Derived.Test.YtdfbimlpondblaaDoorShp
import Derived.Test.YtdfbimlpondblaaDoorShq
import Derived.Test.YtdfbimlpondblaaDoorShr
import Derived.Test.YtdfbimlpondblaaDoorCut
import Derived.Test.YtdfbimlpondblaaDoorRec
import Derived.Test.YtdfbimlpondblaaDoorScp
import Derived.Test.YtdfbimlpondblaaDoorNod
import Derived.Test.YtdfbimlpondblaaDoorSpl
import Derived.Test.YtdfbimlpondblaaDoorSpn
import Derived.Test.YtdfbimlpondblaaDoorSpx
import Derived.Test.YtdfbimlpondblaaDoorAsn
import Derived.Test.YtdfbimlpondblaaDoorAsp
import Derived.Test.YtdfbimlpondblaaDoorMk
import Derived.Test.YtdfbimlpondblaaDoorAsr
import Derived.Test.YtdfbimlpondblaaDoorAst
import Derived.Test.YtdfbimlpondblaaDoorGap
import Derived.Test.YtdfbimlpondblaaDoorFst
import Derived.Test.YtdfbimlpondblaaDoorFsu
import Derived.Test.YtdfbimlpondblaaDoorFsx
import Derived.Test.YtdfbimlpondblaaDoorCel
import Derived.Test.YtdfbimlpondblaaDoorTal
import Derived.Test.YtdfbimlpondblaaDoorIns
import Derived.Test.YtdfbimlpondblaaDoorCod
import Derived.Test.YtdfbimlpondblaaDoorOpv
import Derived.Test.YtdfbimlpondblaaDoorCal
import Derived.Test.YtdfbimlpondblaaDoorMin
namespace Go.Proofs.YtdfbimlpondblaaDoor.W
open Go Go.RowKit Go.Proofs.YtdfbimlpondblaaDoor.E Go.Proofs.YtdfbimlpondblaaDoor.M
set_option linter.unusedVariables false
set_option linter.unusedSimpArgs false
set_option maxRecDepth 100000
open Tryd
theorem zero_rel : ∀ w, (zeroValue 56).run Tryd.prog w = .ok (.agg (relC Rl.none)) w := fun w => by
  rw [relC_def]; exact Tryd.zeroValue56 w
theorem built_rel (a : Int) : Tryd.prog.built 56 [(0, I a)] = some (relC ⟨a, fun _ => 0#64⟩) := by
  rw [relC_def]; rfl
theorem elT_fact : ElT Tryd.prog 43 41 := ⟨Tryd.underlying43, Tryd.underlying41, Tryd.sizeOf41, Tryd.isAgg41, by kernel_rfl⟩
theorem zero_el : ∀ w, (zeroValue 43).run Tryd.prog w = .ok (.agg (elC el0)) w := fun w => by
  rw [elC_zero]; exact Tryd.zeroValue43 w
theorem zero_fac : ∀ w, (zeroValue 58).run Tryd.prog w = .ok (.agg (facC fac0)) w := fun w => Tryd.zeroValue58 w
theorem built_shp1 {v : Value} (h : v.cells = #[v]) : Tryd.prog.built 24 [(1, v)] = some #[B false, v] :=
  (show Tryd.prog.built 24 [(1, v)] = Instr.fill (#[(0, 1), (1, 1)][·]?) #[B false, .slice none 0 0] [(1, v)] from rfl).trans (by simp only [Instr.fill, h]; rfl)
theorem built_shp0 : Tryd.prog.built 24 [(0, B true)] = some #[B true, .slice none 0 0] := rfl
theorem built_fac (k : Int) (b n : Nat) (l : List Tx) : Tryd.prog.built 58 [(0, I k), (1, .slice (some ⟨b, 0, none⟩) n n)] = some (facC ⟨k, .slice (some ⟨b, 0, none⟩) n n, l, Rl.none⟩) := rfl
theorem built_el1 (a : BitVec 64) : Tryd.prog.built 43 [(0, U a)] = some (elC (putE el0 0 a)) := by
  rw [elC_def]; rfl
theorem built_el0 : Tryd.prog.built 43 [] = some (elC el0) := by
  rw [elC_def]; rfl
theorem zero_ins : ∀ w, (zeroValue 79).run Tryd.prog w = .ok (.agg (insL ins0).toArray) w := fun w => (Tryd.zeroValue79 w).trans (by kernel_rfl)
theorem built_tab (r : Rl) : Tryd.prog.built 97 [(0, .agg (relC r))] = some (tabL r 0 0 (.slice none 0 0) (.slice none 0 0)).toArray := by
  rw [relC_def]; kernel_rfl
theorem built_cnt (a b c : Int) : Tryd.prog.built 50 [(0, I a), (1, I b), (2, I c)] = some #[I a, I b, I c] := rfl
theorem built_met : Tryd.prog.built 65 [(0, B true)] = some #[B true, I 0, I 0, I 0] := rfl
abbrev TX : TaT := (⟨14, 16, 32, 18, 21, 23, 25, 24, 83, 73, 29, 35, 65, 97⟩ : TaT)
theorem built_ops (f g k : FuncId) (a b c : Array Value) : Tryd.prog.built 35 [(0, fnV f a), (1, fnV g b), (2, fnV k c)] = some #[fnV f a, fnV g b, fnV k c] := rfl
theorem zero_cal : ∀ w, (zeroValue 45).run Tryd.prog w = .ok (.agg (calL cal0).toArray) w := fun w => (Tryd.zeroValue45 w).trans (by kernel_rfl)
theorem zero_got : ∀ w, (zeroValue 47).run Tryd.prog w = .ok (.agg (ansL (el0, false)).toArray) w := fun w => (Tryd.zeroValue47 w).trans (by kernel_rfl)
theorem built_got1 (b : Bool) : Tryd.prog.built 47 [(1, B b)] = some (ansL (el0, b)).toArray := rfl
theorem built_got0 (e : El) : Tryd.prog.built 47 [(0, .agg (elC e))] = some (ansL (e, false)).toArray := by
  rw [elC_def]; kernel_rfl
theorem built_got01 (e : El) (b : Bool) : Tryd.prog.built 47 [(0, .agg (elC e)), (1, B b)] = some (ansL (e, b)).toArray := by
  rw [elC_def]; kernel_rfl
theorem eq_got (a b : El × Bool) : EqT Tryd.prog 47 (ansL a).toArray (ansL b).toArray (decide (eqE a.1 b.1) && a.2 == b.2) :=
  (eqT Tryd.underlying47 (by kernel_rfl) (by kernel_rfl) (.cons (fldEl (a := a.1) (b := b.1) (by decide) elT_fact Tryd.isAgg43 Tryd.sizeOf43 (ans_ext a) (ans_ext b)) (.cons (fldB (a := a.2) (b := b.2) (by decide) Tryd.underlying4 Tryd.isAgg4 (ans_bool a) (ans_bool b)) .nil))).conv (by simp)
theorem eq_cnt (a b c a' b' c' : Int) : EqT Tryd.prog 50 #[I a, I b, I c] #[I a', I b', I c'] (decide (a = a' ∧ b = b' ∧ c = c')) :=
  (eqT Tryd.underlying50 (by kernel_rfl) (by kernel_rfl) (.cons (fldI (by decide) Tryd.underlying3 Tryd.isAgg3 rfl rfl) (.cons (fldI (by decide) Tryd.underlying3 Tryd.isAgg3 rfl rfl) (.cons (fldI (by decide) Tryd.underlying3 Tryd.isAgg3 rfl rfl) .nil)))).conv (by rw [Bool.eq_iff_iff]; simp)
theorem zero_ops : ∀ w, (zeroValue 35).run Tryd.prog w = .ok (.agg #[.nilFunc, .nilFunc, .nilFunc]) w := fun w => Tryd.zeroValue35 w
theorem built_cnt12 (b c : Int) : Tryd.prog.built 50 [(1, I b), (2, I c)] = some #[I 0, I b, I c] := rfl
theorem c_mask_Below (n : Int) (w : World) : Calls Tryd.prog 77 #[I n] w (Pure (U (below n)) w) := by
 refine enter Tryd.func77 rfl Tryd.ntmps77 rfl <| have hH := Hp.start w; SR <| va (v := U 0#64) rfl <| RL.nil <| CW.seq <| SR <| mI rfl <| V (run_leq rfl rfl) <| RL.nil <| CW.condP rfl (fun h2 => ?_) (fun h2 => ?_)
 ·refine SR <| va (v := U 0#64) rfl <| RL.nil <| CW.ret <| outP1 Tryd.results77 (congrArg U (below_nonpos ‹_›).symm) hH.below
 ·refine CW.skip <| CW.seq <| SR <| mI rfl <| V (run_geq rfl rfl) <| RL.nil <| CW.condP rfl (fun h4 => ?_) (fun h4 => ?_)
  ·refine SR <| va (v := U 18446744073709551615#64) rfl <| RL.nil <| CW.ret <| outP1 Tryd.results77 (congrArg U (below_all ‹_›).symm) hH.below
  ·refine CW.skip <| SR <| mI rfl <| V (run_convIU underlying3 underlying137 rfl) <| V (run_shlU (a := 1#64) rfl rfl) <| V (run_subU rfl (b := 1#64) rfl) <| aU rfl <| RL.nil <| CW.ret <| outP1 Tryd.results77 (congrArg U (below_mid ‹_› ‹_›).symm) hH.below
theorem c_mask_in (i : Int) (w : World) : Calls Tryd.prog 85 #[I i] w (Pure (B (inB i)) w) := by
 refine enter Tryd.func85 rfl Tryd.ntmps85 rfl <| have hH := Hp.start w; SR <| va (v := B false) rfl <| RL.nil <| SR <| mI rfl <| V (run_geq rfl rfl) <| mB rfl <| RL.splitP (dj := 5) rfl (fun h2 => ?_) (fun h2 => ?_)
 ·refine gT rfl (bT h2) <| mI rfl <| gT rfl (bT h2) <| V (run_lss rfl rfl) <| V (run_pickT (bT h2) (v := B _) rfl) <| aB rfl <| RL.nil <| CW.ret <| outP1 Tryd.results85 (congrArg B ?_) hH.below
  (simp [inB]; try omega)
 ·refine gF rfl (bF h2) <| gF rfl (bF h2) <| V (run_pickF (bF h2) (v := B false) rfl) <| aB rfl <| RL.nil <| CW.ret <| outP1 Tryd.results85 (congrArg B ?_) hH.below
  (simp [inB]; try omega)
theorem c_mask_With (s : BitVec 64) (i : Int) (w : World) : Calls Tryd.prog 74 #[U s, I i] w (Pure (U (withB s i)) w) := by
 refine enter Tryd.func74 rfl Tryd.ntmps74 rfl <| have hH := Hp.start w; SR <| va (v := U 0#64) rfl <| RL.nil <| CW.seq <| SR <| mI rfl <| RL.callP rfl hH (c_mask_in _  _) (run_call1 call85 rfl) <| fun w1 hH2 => V (run_not rfl) <| RL.nil <| CW.cond rfl (fun h5 => ?_) (fun h5 => ?_)
 ·refine SR <| mU rfl <| aU rfl <| RL.nil <| CW.ret <| outP1 Tryd.results74 (congrArg U ?_) hH2.below
  simp_all [withB]
 ·refine CW.skip <| SR <| mU rfl <| mI rfl <| V (run_convIU underlying3 underlying137 rfl) <| V (run_shlU (a := 1#64) rfl rfl) <| V (run_orU rfl rfl) <| aU rfl <| RL.nil <| CW.ret <| outP1 Tryd.results74 (congrArg U ?_) hH2.below
  simp_all [withB]
theorem c_mask_Sub (a b : BitVec 64) (w : World) : Calls Tryd.prog 31 #[U a, U b] w (Pure (B (subB a b)) w) := by
 refine enter Tryd.func31 rfl Tryd.ntmps31 rfl <| have hH := Hp.start w; SR <| va (v := B false) rfl <| RL.nil <| SR <| mU rfl <| mU rfl <| V (run_andNotU rfl rfl) <| V (run_eqlU rfl (b := 0#64) rfl) <| aB rfl <| RL.nil <| CW.ret <| outP1 Tryd.results31 (congrArg B ?_) hH.below
 rfl
theorem c_mask_Of (v : Value) (l : List Int) (w : World) (hs : Sl w v 1 l.length (l.map I)) : Calls Tryd.prog 61 #[v] w (Pure (U (ofl l)) w) := by
 have hm := hs.small
 unfold maxLen at hm
 refine enter Tryd.func61 rfl Tryd.ntmps61 rfl <| have hH := Hp.start w; SR <| va (v := U 0#64) rfl <| RL.nil <| SR <| va (v := U 0#64) rfl <| RL.nil <| CW.seq <| SR <| ?_
 refine V (run_move (by conv => lhs; whnf)) ?_
 refine V (run_lenSl (hs.hp hH) rfl underlying123 rfl) <| vm (v := I 0) rfl <| RL.nil <| CW.block <| CW.loop (G := Int) (fun k s' w' => (Fr (3 :: (5 :: (rg 8 8 []))) _ s') ∧ (Hp w w' _) ∧ (s' 3 = U (ofl (l.take k.toNat))) ∧ (s' 8 = I k) ∧ (0 ≤ k) ∧ (k ≤ l.length)) (fun k => (l.length - k).toNat) (0) ⟨Fr.refl _ _, hH, (congrArg U (by simp [ofl_nil])), rfl, (by omega), (by omega)⟩ <| ?_
 rintro k sg1 w1 ⟨fr1, hH1, e3_1, e8_1, h0, hk⟩
 have e6_1 := (fr1 6 rfl).trans (by conv => lhs; whnf)
 have e7_1 := fr1.ii 7 rfl rfl
 refine SR <| V (run_lss e8_1 e7_1) <| RL.nil <| CW.seq <| CW.condP rfl (fun h3 => ?_) (fun h3 => ?_)
 ·refine CW.skip <| CW.seq <| CW.block <| SR <| V (run_indexAddrS (hs.hp hH1) underlying123 sizeOf3 e6_1 e8_1 (by omega)) <| V (run_ld underlying3 rfl rfl ((hs.hp hH1).cell _ _ (map_at (by omega)))) <| aI rfl <| RL.nil <| CW.region <| vm e3_1 <| mI rfl <| RL.callP rfl hH1 (c_mask_With _ _  _) (run_call2 call74 rfl rfl) <| fun w4 hH5 => aU rfl <| RL.nil <| CW.region <| V (run_add e8_1 rfl (by omega)) <| mI rfl <| RL.nil <| ?_
  refine ⟨k + 1, ?_, fr1.u4.u4.u1.u1, hH5, (congrArg U (by rw [withB_ofl, ← take_next h0 ‹_›])), (congrArg I (by rfl)), ?_, ?_⟩
  ·((try dsimp only); omega)
  ·omega
  ·omega
 ·refine CW.exit (id := 0) rfl <| SR <| vm e3_1 <| aU rfl <| RL.nil <| CW.ret <| outP1 Tryd.results61 (congrArg U ?_) hH1.below
  rw [take_all ‹_›]
theorem c_bits_TrailingZeros64 (s : BitVec 64) (w : World) (hT : Tab w) : Calls Tryd.prog 86 #[U s] w (Pure (I (tz s)) w) := by
 refine enter Tryd.func86 rfl Tryd.ntmps86 rfl <| have hH := Hp.start w; SR <| va (v := I 0) rfl <| RL.nil <| CW.seq <| SR <| mU rfl <| V (run_eqlU rfl (b := 0#64) rfl) <| RL.nil <| CW.condP rfl (fun h2 => ?_) (fun h2 => ?_)
 ·refine SR <| va (v := I 64) rfl <| RL.nil <| CW.ret <| outP1 Tryd.results86 (congrArg I ?_) hH.below
  rw [‹s = 0#64›]; rfl
 ·refine CW.skip <| SR <| mU rfl <| mU rfl <| V (run_negU rfl) <| V (run_andU rfl rfl) <| V (run_mulU rfl (b := 285870213051353865#64) rfl) <| V (run_shrU rfl (b := 58#64) rfl) <| V (run_indexAddrA underlying140 sizeOf5 rfl rfl (by exact tz_idx _)) <| V (run_ld underlying5 rfl rfl (hT.at _)) <| V (run_convUI underlying5 underlying3 rfl (conv_bd (tztab_bd _))) <| aI rfl <| RL.nil <| CW.ret <| outP1 Tryd.results86 (congrArg I ?_) hH.below
  exact tz_ne ‹_›
theorem c_mask_Each (f : FuncId) (cap : Array Value) (Inv Stop : List Int → World → Prop) (s : BitVec 64) (w : World) (hf : ∀ args w, (callFunc f args).run Tryd.prog w = .ok (.enter f args) w) (hm : ∀ l w w', Inv l w → Below w.heap.size w w' → Inv l w') (hT : ∀ l w, Inv l w → Tab w) (go : ∀ l i r w, lst s = l ++ i :: r → Inv l w → Calls Tryd.prog f (#[I i] ++ cap) w (Ret fun u w' => ∃ c : Bool, u = B c ∧ (c = true → Inv (l ++ [i]) w') ∧ (c = false → Stop (l ++ [i]) w'))) (h0 : Inv [] w) : Calls Tryd.prog 75 #[U s, .func (.func f) #[] cap] w (Ret fun u w' => u = .tuple #[] ∧ (Inv (lst s) w' ∨ ∃ l i r, lst s = l ++ i :: r ∧ Stop (l ++ [i]) w')) := by
 refine enter Tryd.func75 rfl Tryd.ntmps75 rfl <| have hH := Hp.start w; CW.block <| CW.loop (G := (BitVec 64) × (List Int)) (fun ⟨s1, l⟩ s' w' => (Fr (0 :: (rg 4 11 [])) _ s') ∧ (Inv l w') ∧ (s' 0 = U s1) ∧ (lst s = l ++ lst s1)) (fun ⟨s1, l⟩ => (lst s1).length) ((s, [])) ⟨Fr.refl _ _, h0, rfl, (by simp)⟩ <| ?_
 rintro ⟨s1, l⟩ sg1 w1 ⟨fr1, hH1, e0_1, hl⟩
 have hI1 := hH1
 clear hH1
 have hH1 := Hp.start w1
 have e1_1 := fr1.vv 1 (a := .func _ _ _) rfl rfl
 refine CW.seq <| SR <| vm e0_1 <| V (run_neqU rfl (b := 0#64) rfl) <| RL.nil <| CW.condP rfl (fun h3 => ?_) (fun h3 => ?_)
 ·refine CW.skip <| CW.block <| CW.seq <| SR <| vm e1_1 <| vm e0_1 <| RL.callP rfl hH1 (c_bits_TrailingZeros64 _ _ (hT _ _ hI1)) (run_call1 call86 rfl) <| fun w4 hH5 => have hI := hm _ _ _ hI1 hH5.below; RL.call rfl (run_callV1 hf rfl (v1 := I (tz s1)) rfl) (go l (tz s1) (lst (s1 &&& (s1 - 1#64))) _ (by rw [hl, lst_tz ‹_›]) hI) <| ?_
  rintro u8 w6 ⟨c, rfl, hJ1, hJ2⟩
  have hH7 := Hp.start w6
  refine V (run_not rfl) <| RL.nil <| CW.cond rfl (fun h11 => ?_) (fun h11 => ?_)
  ·refine CW.ret <| out0 Tryd.results75 ⟨rfl, .inr ⟨l, tz s1, lst (s1 &&& (s1 - 1#64)), by rw [hl, lst_tz ‹_›], hJ2 (by simpa using ‹(!c) = true›)⟩⟩
  ·refine CW.skip <| CW.region <| vm e0_1 <| vm e0_1 <| V (run_subU rfl (b := 1#64) rfl) <| V (run_andU rfl rfl) <| aU rfl <| RL.nil <| ?_
   refine ⟨(s1 &&& (s1 - 1#64), l ++ [tz s1]), ?_, fr1.u4.u4.u4, (hJ1 (by simpa using ‹(!c) = false›)), rfl, ?_⟩
   ·exact lst_clear_lt ‹_›
   ·rw [hl, lst_tz ‹_›]; simp
 ·refine CW.exit (id := 0) rfl <| have hn : lst s1 = [] := lst_eq_nil.2 (by simpa using ‹¬ s1 ≠ 0#64›); out0 Tryd.results75 ⟨rfl, .inl (by rw [hl, hn, List.append_nil]; assumption)⟩
theorem c_mask_List_1 (W0 : World) (b : Nat) (v : Value) (l : List Int) (i : Int) (w : World) (hH : Hp W0 w [.row v 3 1 l.length (l.map I), .blk b (.cells #[v] 123 (0, 0))]) (hlen : l.length ≤ 64) : Calls Tryd.prog 76 #[I i, .pointer (some ⟨b, 0, none⟩)] w (Ret fun u w' => u = B true ∧ ∃ v', Hp W0 w' [.row v' 3 1 (l ++ [i]).length ((l ++ [i]).map I), .blk b (.cells #[v'] 123 (0, 0))]) := by
 refine enter Tryd.func76 rfl Tryd.ntmps76 rfl <| SR <| va (v := B false) rfl <| RL.nil <| SR <| V (run_ld underlying123 rfl rfl (hH.cell (i := 1) rfl rfl)) <| mI rfl <| RL.new rfl hH (f := fun b => (.slice (some ⟨b, 0, none⟩) 1 1)) (run_mkL underlying123 rfl rfl (sz := 1) (vs := [I _]) rfl rfl (by decide) (by decide) rfl rfl) <| fun b3 w1 hH2 => ?_
 (try simp only [clX] at hH2)
 refine RL.app rfl hH2 (i := 1) rfl (hH2.slBlk (i := 0) (n := 1) (sz := 1) rfl rfl (by decide)) rfl rfl underlying123 rfl rfl (size := 1) (bytes := 8) rfl rfl rfl (by decide) (by simp [Value.oneCell']) (by omega) (by simp only [maxLen]; omega) <| fun v4 w5 hH6 => ?_
 simp only [z2] at hH6
 refine RL.set hH6 (i := 2) rfl (run_st rfl rfl (by conv => lhs; whnf) (row_cells (hH6.get (i := 1) rfl)).1 (row_cells (hH6.get (i := 1) rfl)).2 (hH6.blk (i := 2) rfl) (by simp)) ?_
 intro w7 hH8
 simp only [z2] at hH8
 refine RL.nil <| SR <| va (v := B true) rfl <| RL.nil <| CW.ret <| out1 Tryd.results76 rfl ⟨rfl, (v4 : Value), Hp.conv hH8.tail (by simp)⟩
theorem c_mask_List (s : BitVec 64) (w : World) (hT : Tab w) : Calls Tryd.prog 62 #[U s] w (PureRow 3 1 (lst s).length ((lst s).map I) w) := by
 refine enter Tryd.func62 rfl Tryd.ntmps62 rfl <| have hH := Hp.start w; SR <| va (v := .slice none 0 0) rfl <| RL.nil <| SR <| RL.new rfl hH (f := fun b => (.pointer (some ⟨b, 0, none⟩))) (run_alloc Tryd.zeroValue123) <| fun b3 w1 hH2 => have hH4 := hH2.nilRow 3 1; RL.nil <| SR <| mU rfl <| ?_
 refine V (run_mkF1 (by conv => lhs; whnf)) ?_
 refine RL.call rfl (run_call2 call75 (v1 := U s) rfl (v2 := .func (.func 76) #[] #[.pointer (some ⟨b3, 0, none⟩)]) rfl) (c_mask_Each 76 _ (fun l w' => ∃ v, Hp w w' [.row v 3 1 l.length (l.map I), .blk b3 (.cells #[v] 123 (0, 0))]) (fun _ _ => False) s _ call76 (fun l w' w'' h hb => h.imp fun v h => h.call hb) (fun l w' h => h.elim fun v h => hT.hp h) (fun l i r w' he h => h.elim fun v h => by
   have hl64 : l.length ≤ 64 := by have := lst_len s; rw [he] at this; simp at this; omega
   have hc := c_mask_List_1 w b3 v l i w' h hl64
   refine Ret.calls hc <| fun u w2 hq => ⟨true, hq.1, fun _ => hq.2, fun h => by cases h⟩) ⟨.slice none 0 0, hH4⟩) ?_
 rintro u w5 ⟨rfl, hor⟩
 obtain ⟨v7, hH6⟩ := hor.resolve_right (fun ⟨_, _, _, _, h⟩ => h)
 refine RL.nil <| SR <| V (run_ld underlying123 rfl rfl (hH6.cell (i := 1) rfl rfl)) <| ?_
 refine V (run_assign (by conv => lhs; whnf)) ?_
 refine RL.nil <| CW.ret <| outR Tryd.results62 rfl hH6 (i := 0) rfl (rfl) (rfl)
theorem c_relate_points (r : Rl) (w : World) : Calls Tryd.prog 64 #[.agg (relC r)] w (Pure (I (pts r)) w) := by
 refine enter Tryd.func64 rfl Tryd.ntmps64 rfl <| have hH := Hp.start w; SR <| RL.new rfl hH (f := fun b => (.pointer (some ⟨b, 0, none⟩))) (run_box (v := .agg _) rfl) <| fun b3 w1 hH2 => va (v := I 0) rfl <| RL.nil <| SR <| V (fA underlying56 0 rfl sizeOf3 rfl) <| V (run_ld underlying3 rfl rfl (hH2.cell (i := 0) rfl (relC_N _))) <| V (run_minI rfl rfl) <| V (run_maxI rfl rfl) <| aI rfl <| RL.nil <| CW.ret <| outP1 Tryd.results64 (congrArg I ?_) hH2.below
 rfl
theorem c_relate_row (r : Rl) (i : Int) (hi : 0 ≤ i ∧ i < 64) (w : World) : Calls Tryd.prog 73 #[.agg (relC r), I i] w (Pure (U (rowR r i)) w) := by
 refine enter Tryd.func73 rfl Tryd.ntmps73 rfl <| have hH := Hp.start w; SR <| RL.new rfl hH (f := fun b => (.pointer (some ⟨b, 0, none⟩))) (run_box (v := .agg _) rfl) <| fun b3 w1 hH2 => va (v := U 0#64) rfl <| RL.nil <| CW.seq <| CW.regionD (by kernel_rfl) hH2 <| fun w4 hH5 => have zh5 := hH5.sub sR; AQ 0 rfl zh5 (mV (I _) rfl) <| AQ 1 rfl zh5 (fA underlying56 1 rfl sizeOf54 rfl) <| AQ 2 rfl zh5 (run_indexAddrA underlying54 sizeOf41 rfl rfl (by omega)) <| AT 3 rfl zh5 (fun w hS => run_ld underlying41 rfl rfl (hS.cell (i := 0) rfl (relC_up _ (by omega)))) <| AT 4 rfl zh5 (fun w hS => run_ldRel underlying56 rfl rfl rfl (hS.blk (i := 0) rfl)) <| A1 5 <| AO.callP rfl gnone rfl hH5 sR (c_relate_points _  _) (run_call1 call64 rfl) <| fun w6 hH7 => A1 6 <| AO.callP rfl gnone rfl hH7 sR (c_mask_Below _  _) (run_call1 call77 rfl) <| fun w8 hH9 => AQ 7 rfl (hH9.sub sR) (run_andU rfl rfl) <| AQ 8 rfl (hH9.sub sR) (aV (U _) rfl) <| AD <| CW.ret <| outP1 Tryd.results73 (congrArg U ?_) hH9.below
 rfl
theorem c_relate_Up (r : Rl) (s : BitVec 64) (w : World) (hT : Tab w) : Calls Tryd.prog 63 #[.agg (relC r), U s] w (Pure (U (upR r s)) w) := by
 have hp := pts_bd r
 refine enter Tryd.func63 rfl Tryd.ntmps63 rfl <| have hH := Hp.start w; SR <| RL.new rfl hH (f := fun b => (.pointer (some ⟨b, 0, none⟩))) (run_box (v := .agg _) rfl) <| fun b3 w1 hH2 => va (v := U 0#64) rfl <| RL.nil <| SR <| va (v := U 0#64) rfl <| RL.nil <| CW.seq <| SR <| mU rfl <| V (run_ldRel underlying56 rfl rfl rfl (hH2.blk (i := 0) rfl)) <| RL.callP rfl hH2 (c_relate_points _  _) (run_call1 call64 rfl) <| fun w4 hH5 => RL.callP rfl hH5 (c_mask_Below _  _) (run_call1 call77 rfl) <| fun w6 hH7 => V (run_andU rfl rfl) <| RL.callR rfl hH7 (c_mask_List _  _ (hT.hp hH7)) (run_call1 call62 rfl) <| fun v10 w8 hH9 => V (run_lenSl (hH9.sl (i := 0) rfl) rfl underlying123 rfl) <| vm (v := I 0) rfl <| RL.nil <| CW.block <| have hl := lst_len (s &&& below (pts r)); CW.loop (G := Int) (fun k s' w' => (Fr (5 :: (7 :: (rg 15 10 []))) _ s') ∧ (Hp w w' _) ∧ (s' 5 = U (orAll (rowR r) ((lst (s &&& below (pts r))).take k.toNat))) ∧ (s' 15 = I k) ∧ (0 ≤ k) ∧ (k ≤ (lst (s &&& below (pts r))).length)) (fun k => ((lst (s &&& below (pts r))).length - k).toNat) (0) ⟨Fr.refl _ _, hH9, (congrArg U (by simp [orAll])), rfl, (by omega), (by omega)⟩ <| ?_
 rintro k sg11 w11 ⟨fr11, hH11, e5_11, e15_11, h0, hk⟩
 have e2_11 := fr11.pp 2 rfl rfl
 have e13_11 := (fr11 13 rfl).trans (by conv => lhs; whnf)
 have e14_11 := fr11.ii 14 rfl rfl
 refine SR <| V (run_lss e15_11 e14_11) <| RL.nil <| CW.seq <| CW.condP rfl (fun h13 => ?_) (fun h13 => ?_)
 ·refine CW.skip <| CW.seq <| CW.block <| SR <| V (run_indexAddrS (hH11.sl (i := 0) rfl) underlying123 sizeOf3 e13_11 e15_11 (by omega)) <| V (run_ld underlying3 rfl rfl ((hH11.sl (i := 0) rfl).cell _ _ (map_at (by omega)))) <| aI rfl <| RL.nil <| CW.region <| vm e5_11 <| V (run_ldRel underlying56 rfl rfl e2_11 (hH11.blk (i := 1) rfl)) <| mI rfl <| RL.callP rfl hH11 (c_relate_row _ _ (by exact lst_at_bd (by assumption) (by assumption)) _) (run_call2 call73 rfl rfl) <| fun w14 hH15 => V (run_orU rfl rfl) <| aU rfl <| RL.nil <| CW.region <| V (run_add e15_11 rfl (by omega)) <| mI rfl <| RL.nil <| ?_
  refine ⟨k + 1, ?_, fr11.u4.u4.u4, hH15, (congrArg U (orAll_next h0 ‹_›)), (congrArg I (by rfl)), ?_, ?_⟩
  ·((try dsimp only); omega)
  ·omega
  ·omega
 ·refine CW.exit (id := 0) rfl <| SR <| vm e5_11 <| aU rfl <| RL.nil <| CW.ret <| outP1 Tryd.results63 (congrArg U ?_) hH11.below
  (rw [take_all ‹_›]; rfl)
theorem c_relate_Down (r : Rl) (s : BitVec 64) (w : World) : Calls Tryd.prog 60 #[.agg (relC r), U s] w (Pure (U (downR r s)) w) := by
 have hp := pts_bd r
 refine enter Tryd.func60 rfl Tryd.ntmps60 rfl <| have hH := Hp.start w; SR <| RL.new rfl hH (f := fun b => (.pointer (some ⟨b, 0, none⟩))) (run_box (v := .agg _) rfl) <| fun b3 w1 hH2 => va (v := U 0#64) rfl <| RL.nil <| SR <| va (v := U 0#64) rfl <| RL.nil <| CW.seq <| SR <| V (run_ldRel underlying56 rfl rfl rfl (hH2.blk (i := 0) rfl)) <| RL.callP rfl hH2 (c_relate_points _  _) (run_call1 call64 rfl) <| fun w4 hH5 => vm (v := I 0) rfl <| RL.nil <| CW.block <| CW.loop (G := Int) (fun k s' w' => (Fr (5 :: 6 :: (rg 9 13 [])) _ s') ∧ (Hp w w' _) ∧ (s' 5 = U (downTo r s k)) ∧ (s' 9 = I k) ∧ (0 ≤ k) ∧ (k ≤ pts r)) (fun k => (pts r - k).toNat) (0) ⟨Fr.refl _ _, hH5, (congrArg U (by simp [downTo, bitsTo])), rfl, (by omega), (by omega)⟩ <| ?_
 rintro k sg6 w6 ⟨fr6, hH6, e5_6, e9_6, h0, hk⟩
 have e1_6 := fr6.uu 1 rfl rfl
 have e2_6 := fr6.pp 2 rfl rfl
 have e8_6 := fr6.ii 8 rfl rfl
 refine SR <| V (run_lss e9_6 e8_6) <| RL.nil <| CW.seq <| CW.condP rfl (fun h8 => ?_) (fun h8 => ?_)
 ·refine CW.skip <| CW.seq <| CW.block <| SR <| vm e9_6 <| aI rfl <| RL.nil <| SR <| V (run_ldRel underlying56 rfl rfl e2_6 (hH6.blk (i := 0) rfl)) <| mI rfl <| RL.callP rfl hH6 (c_relate_row _ _ (by omega) _) (run_call2 call73 rfl rfl) <| fun w9 hH10 => vm e1_6 <| V (run_andU rfl rfl) <| V (run_neqU rfl (b := 0#64) rfl) <| RL.nil <| CW.condP rfl (fun h12 => ?_) (fun h12 => ?_)
  ·refine CW.region <| vm e5_6 <| mI rfl <| RL.callP rfl hH10 (c_mask_With _ _  _) (run_call2 call74 rfl rfl) <| fun w13 hH14 => aU rfl <| RL.nil <| CW.region <| V (run_add e9_6 rfl (by omega)) <| mI rfl <| RL.nil <| ?_
   refine ⟨k + 1, ?_, fr6.u4.u4.u4.u1.u1.u1, hH14, (congrArg U (by exact down_yes h0 (by omega) ‹_›)), (congrArg I (by rfl)), ?_, ?_⟩
   ·((try dsimp only); omega)
   ·omega
   ·omega
  ·refine CW.skip <| CW.region <| V (run_add e9_6 rfl (by omega)) <| mI rfl <| RL.nil <| ?_
   refine ⟨k + 1, ?_, fr6.u4.u4.u1.u1.u1, hH10, (Eq.trans e5_6 (congrArg U (by exact down_not h0 ‹_›))), (congrArg I (by rfl)), ?_, ?_⟩
   ·((try dsimp only); omega)
   ·omega
   ·omega
 ·refine CW.exit (id := 0) rfl <| SR <| vm e5_6 <| aU rfl <| RL.nil <| CW.ret <| outP1 Tryd.results60 (congrArg U ?_) hH6.below
  (rw [show k = pts r by omega]; rfl)
theorem c_relate_New (n : Int) (w : World) : Calls Tryd.prog 54 #[I n] w (Pure (.agg (relC (newR n))) w) := by
 refine enter Tryd.func54 rfl Tryd.ntmps54 rfl <| have hH := Hp.start w; SR <| RL.new rfl hH (f := fun b => (.pointer (some ⟨b, 0, none⟩))) (run_alloc zero_rel) <| fun b3 w1 hH2 => RL.nil <| SR <| mI rfl <| V (run_bld (vs := [(0, I _)]) rfl (built_rel _)) <| RL.callP rfl hH2 (c_relate_points _  _) (run_call1 call64 rfl) <| fun w4 hH5 => V (run_bld (vs := [(0, I _)]) rfl (built_rel _)) <| RL.set hH5 (i := 0) rfl (run_stRel rfl rfl rfl (hH5.blk (i := 0) rfl)) <| fun w6 hH7 => ?_
 simp only [z2] at hH7
 refine RL.nil <| CW.ret <| outC Tryd.results54 rfl hH7 (i := 0) rfl underlying56 rfl rfl ⟨?_, hH7.below⟩
 rfl
theorem c_hasse_in (r : Rl) (i : Int) (w : World) : Calls Tryd.prog 59 #[.agg (relC r), I i] w (Pure (B (isP r i)) w) := by
 have hp := pts_bd r
 have hnn : (newR r.n).n = pts r := rfl
 refine enter Tryd.func59 rfl Tryd.ntmps59 rfl <| have hH := Hp.start w; SR <| RL.new rfl hH (f := fun b => (.pointer (some ⟨b, 0, none⟩))) (run_box (v := .agg _) rfl) <| fun b3 w1 hH2 => va (v := B false) rfl <| RL.nil <| SR <| mI rfl <| V (run_geq rfl rfl) <| mB rfl <| RL.splitP (dj := 7) rfl (fun h5 => ?_) (fun h5 => ?_)
 ·refine gT rfl (bT h5) <| mI rfl <| gT rfl (bT h5) <| V (fA underlying56 0 rfl sizeOf3 rfl) <| gT rfl (bT h5) <| V (run_ld underlying3 rfl rfl (hH2.cell (i := 0) rfl (relC_N _))) <| gT rfl (bT h5) <| RL.callP rfl hH2 (c_relate_New _  _) (run_call1 call54 rfl) <| fun w6 hH7 => gT rfl (bT h5) <| V (run_field underlying56 rfl isAgg3 rfl (relC_N _)) <| gT rfl (bT h5) <| V (run_lss rfl rfl) <| V (run_pickT (bT h5) (v := B _) rfl) <| aB rfl <| RL.nil <| CW.ret <| outP1 Tryd.results59 (congrArg B ?_) hH7.below
  (rw [isP, Bool.eq_iff_iff]; simp only [decide_eq_true_eq, Bool.false_eq_true, false_iff]; omega)
 ·refine gF rfl (bF h5) <| gF rfl (bF h5) <| gF rfl (bF h5) <| gF rfl (bF h5) <| gF rfl (bF h5) <| gF rfl (bF h5) <| V (run_pickF (bF h5) (v := B false) rfl) <| aB rfl <| RL.nil <| CW.ret <| outP1 Tryd.results59 (congrArg B ?_) hH2.below
  (rw [isP, Bool.eq_iff_iff]; simp only [decide_eq_true_eq, Bool.false_eq_true, false_iff]; omega)
theorem c_hasse_above (r : Rl) (i : Int) (w : World) (hT : Tab w) : Calls Tryd.prog 53 #[.agg (relC r), I i] w (Pure (U (aboveR r i)) w) := by
 refine enter Tryd.func53 rfl Tryd.ntmps53 rfl <| have hH := Hp.start w; SR <| RL.new rfl hH (f := fun b => (.pointer (some ⟨b, 0, none⟩))) (run_box (v := .agg _) rfl) <| fun b3 w1 hH2 => va (v := U 0#64) rfl <| RL.nil <| CW.seq <| CW.regionD (by kernel_rfl) hH2 <| fun w4 hH5 => AT 0 rfl (hH5.sub sR) (fun w hS => run_ldRel underlying56 rfl rfl rfl (hS.blk (i := 0) rfl)) <| AQ 1 rfl (hH5.sub sR) (mV (I _) rfl) <| A1 2 <| AO.new rfl gnone rfl hH5 sR (f := fun b => .slice (some ⟨b, 0, none⟩) 1 1) (run_mkL underlying123 rfl rfl (sz := 1) (vs := [I _]) rfl rfl (by decide) (by decide) rfl rfl) <| fun b8 w6 hH7 => ?_
 (try simp only [clX] at hH7)
 refine A1 3 <| AO.callP rfl gnone rfl hH7 (sQ sR) (c_mask_Of _ [i] _ (hH7.slBlk (i := 0) (n := 1) (sz := 1) rfl rfl (by decide))) (run_call1 call61 rfl) <| fun w9 hH10 => A1 4 <| AO.callP rfl gnone rfl hH10 (sQ sR) (c_relate_Up _ _  _ (hT.hp hH10)) (run_call2 call63 rfl rfl) <| fun w11 hH12 => AQ 5 rfl (hH12.sub (sQ sR)) (aV (U _) rfl) <| AD <| CW.ret <| outP1 Tryd.results53 (congrArg U ?_) hH12.below
 rfl
theorem c_hasse_below (r : Rl) (i : Int) (w : World) (hT : Tab w) : Calls Tryd.prog 51 #[.agg (relC r), I i] w (Pure (U (belowR r i)) w) := by
 refine enter Tryd.func51 rfl Tryd.ntmps51 rfl <| have hH := Hp.start w; SR <| RL.new rfl hH (f := fun b => (.pointer (some ⟨b, 0, none⟩))) (run_box (v := .agg _) rfl) <| fun b3 w1 hH2 => va (v := U 0#64) rfl <| RL.nil <| CW.seq <| SR <| V (run_ldRel underlying56 rfl rfl rfl (hH2.blk (i := 0) rfl)) <| mI rfl <| RL.callP rfl hH2 (c_hasse_in _ _  _) (run_call2 call59 rfl rfl) <| fun w4 hH5 => V (run_not rfl) <| RL.nil <| CW.cond rfl (fun h8 => ?_) (fun h8 => ?_)
 ·refine SR <| va (v := U 0#64) rfl <| RL.nil <| CW.ret <| outP1 Tryd.results51 (congrArg U ?_) hH5.below
  rw [belowR, if_neg (by simpa using ‹(!isP r i) = true›)]
 ·refine CW.skip <| CW.seq <| CW.regionD (by kernel_rfl) hH5 <| fun w9 hH10 => AT 0 rfl (hH10.sub sR) (fun w hS => run_ldRel underlying56 rfl rfl rfl (hS.blk (i := 0) rfl)) <| AQ 1 rfl (hH10.sub sR) (mV (I _) rfl) <| A1 2 <| AO.new rfl gnone rfl hH10 sR (f := fun b => .slice (some ⟨b, 0, none⟩) 1 1) (run_mkL underlying123 rfl rfl (sz := 1) (vs := [I _]) rfl rfl (by decide) (by decide) rfl rfl) <| fun b13 w11 hH12 => ?_
  (try simp only [clX] at hH12)
  refine A1 3 <| AO.callP rfl gnone rfl hH12 (sQ sR) (c_mask_Of _ [i] _ (hH12.slBlk (i := 0) (n := 1) (sz := 1) rfl rfl (by decide))) (run_call1 call61 rfl) <| fun w14 hH15 => A1 4 <| AO.callP rfl gnone rfl hH15 (sQ sR) (c_relate_Down _ _  _) (run_call2 call60 rfl rfl) <| fun w16 hH17 => AQ 5 rfl (hH17.sub (sQ sR)) (aV (U _) rfl) <| AD <| CW.ret <| outP1 Tryd.results51 (congrArg U ?_) hH17.below
  rw [belowR, if_pos (by simpa using ‹(!isP r i) = false›)]
theorem c_hasse_nearest (r : Rl) (i j : Int) (f : FuncId) (gg : Int → BitVec 64) (w : World) (hf : ∀ args w, (callFunc f args).run Tryd.prog w = .ok (.enter f args) w) (go : ∀ i w, Tab w → Calls Tryd.prog f #[.agg (relC r), I i] w (Pure (U (gg i)) w)) (hn : ∀ u, hasB (gg i &&& gg j) u = true → u < pts r) (hT : Tab w) : Calls Tryd.prog 52 #[.agg (relC r), I i, I j, .func (.func f) #[] #[]] w (Pure (.tuple #[I (nearV gg (pts r) i j).1, B (nearV gg (pts r) i j).2]) w) := by
 have hl := lst_len (gg i &&& gg j)
 refine enter Tryd.func52 rfl Tryd.ntmps52 rfl <| have hH := Hp.start w; SR <| RL.new rfl hH (f := fun b => (.pointer (some ⟨b, 0, none⟩))) (run_box (v := .agg _) rfl) <| fun b3 w1 hH2 => va (v := I 0) rfl <| va (v := B false) rfl <| RL.nil <| CW.seq <| CW.regionD (by kernel_rfl) hH2 <| fun w4 hH5 => have zh5 := hH5.sub sR; AQ 0 rfl zh5 (mV (.func _ _ _) rfl) <| AT 1 rfl zh5 (fun w hS => run_ldRel underlying56 rfl rfl rfl (hS.blk (i := 0) rfl)) <| AQ 2 rfl zh5 (mV (I _) rfl) <| AQ 4 rfl zh5 (mV (.func _ _ _) rfl) <| AT 5 rfl zh5 (fun w hS => run_ldRel underlying56 rfl rfl rfl (hS.blk (i := 0) rfl)) <| AQ 6 rfl zh5 (mV (I _) rfl) <| A1 3 <| AO.callP rfl gnone rfl hH5 sR (go _ _ (hT.hp hH5)) (run_callC2 hf (cs := []) rfl rfl rfl) <| fun w6 hH7 => A1 7 <| AO.callP rfl gnone rfl hH7 sR (go _ _ (hT.hp hH7)) (run_callC2 hf (cs := []) rfl rfl rfl) <| fun w8 hH9 => AQ 8 rfl (hH9.sub sR) (run_andU rfl rfl) <| AQ 9 rfl (hH9.sub sR) (aV (U _) rfl) <| AD <| CW.seq <| SR <| mU rfl <| RL.callR rfl hH9 (c_mask_List _  _ (hT.hp hH9)) (run_call1 call62 rfl) <| fun v12 w10 hH11 => V (run_lenSl (hH11.sl (i := 0) rfl) rfl underlying123 rfl) <| vm (v := I 0) rfl <| RL.nil <| CW.block <| CW.loop (G := Int) (fun a s' w' => (Fr (8 :: 9 :: (12 :: (rg 25 12 []))) _ s') ∧ (Hp w w' _) ∧ (s' 25 = I a) ∧ (0 ≤ a) ∧ (a ≤ (lst (gg i &&& gg j)).length) ∧ (∀ b : Int, 0 ≤ b → b < a → subB (gg i &&& gg j) (gg ((lst (gg i &&& gg j)).getD b.toNat 0)) = false)) (fun a => ((lst (gg i &&& gg j)).length - a).toNat) (0) ⟨Fr.refl _ _, hH11, rfl, (by omega), (by omega), fun b x y => absurd y (by omega)⟩ <| ?_
 rintro a sg13 w13 ⟨fr13, hH13, e25_13, a0, a1, hg⟩
 have e3_13 := fr13.vv 3 (a := .func _ _ _) rfl rfl
 have e4_13 := fr13.pp 4 rfl rfl
 have e10_13 := fr13.uu 10 rfl rfl
 have e23_13 := (fr13 23 rfl).trans (by conv => lhs; whnf)
 have e24_13 := fr13.ii 24 rfl rfl
 refine SR <| V (run_lss e25_13 e24_13) <| RL.nil <| CW.seq <| CW.condP rfl (fun h15 => ?_) (fun h15 => ?_)
 ·refine CW.skip <| CW.seq <| CW.block <| SR <| V (run_indexAddrS (hH13.sl (i := 0) rfl) underlying123 sizeOf3 e23_13 e25_13 (by omega)) <| V (run_ld underlying3 rfl rfl ((hH13.sl (i := 0) rfl).cell _ _ (map_at (by omega)))) <| aI rfl <| RL.nil <| SR <| vm e10_13 <| vm e3_13 <| V (run_ldRel underlying56 rfl rfl e4_13 (hH13.blk (i := 1) rfl)) <| mI rfl <| RL.callP rfl hH13 (go _ _ (hT.hp hH13)) (run_callC2 hf (cs := []) rfl rfl rfl) <| fun w16 hH17 => RL.callP rfl hH17 (c_mask_Sub _ _  _) (run_call2 call31 rfl rfl) <| fun w18 hH19 => RL.nil <| CW.cond rfl (fun h21 => ?_) (fun h21 => ?_)
  ·refine SR <| mI rfl <| aI rfl <| va (v := B true) rfl <| RL.nil <| CW.ret <| ?_
   refine outP2 Tryd.results52 (congrArg I ?_) (congrArg B ?_) hH19.below <;> rw [near_yes hn a0 ‹_› ‹_› hg]
  ·refine CW.skip <| CW.region <| V (run_add e25_13 rfl (by omega)) <| mI rfl <| RL.nil <| ?_
   refine ⟨a + 1, ?_, fr13.u4.u4.u4, hH19, (congrArg I (by rfl)), ?_, ?_, ?_⟩
   ·((try dsimp only); omega)
   ·omega
   ·omega
   ·exact fun b x y => if e : b = a then e ▸ ‹_› else hg b x (by omega)
 ·refine CW.exit (id := 0) rfl <| SR <| va (v := I 0) rfl <| va (v := B false) rfl <| RL.nil <| CW.ret <| ?_
  refine outP2 Tryd.results52 (congrArg I ?_) (congrArg B ?_) hH13.below <;> rw [near_no ‹_› hg]
theorem c_hasse_Join (r : Rl) (i j : Int) (w : World) (hT : Tab w) : Calls Tryd.prog 45 #[.agg (relC r), I i, I j] w (Pure (.tuple #[I (joinV r i j).1, B (joinV r i j).2]) w) := by
 refine enter Tryd.func45 rfl Tryd.ntmps45 rfl <| have hH := Hp.start w; SR <| RL.new rfl hH (f := fun b => (.pointer (some ⟨b, 0, none⟩))) (run_box (v := .agg _) rfl) <| fun b3 w1 hH2 => va (v := I 0) rfl <| va (v := B false) rfl <| RL.nil <| SR <| V (run_ldRel underlying56 rfl rfl rfl (hH2.blk (i := 0) rfl)) <| mI rfl <| mI rfl <| RL.callP rfl hH2 (c_hasse_nearest r i j 53 (aboveR r) _ call53 (fun i w h => c_hasse_above r i w h) (fun u h => above_in h) (hT.hp hH2)) (run_call4 call52 rfl rfl rfl rfl) <| fun w4 hH5 => V (run_extract rfl (v := I _) rfl) <| V (run_extract rfl (v := B _) rfl) <| aI rfl <| aB rfl <| RL.nil <| CW.ret <| outP2 Tryd.results45 (congrArg I ?_) (congrArg B ?_) hH5.below
 all_goals rfl
theorem c_hasse_Word (r : Rl) (i : Int) (w : World) (hT : Tab w) : Calls Tryd.prog 44 #[.agg (relC r), I i] w (Pure (U (belowR r i)) w) := by
 refine enter Tryd.func44 rfl Tryd.ntmps44 rfl <| have hH := Hp.start w; SR <| RL.new rfl hH (f := fun b => (.pointer (some ⟨b, 0, none⟩))) (run_box (v := .agg _) rfl) <| fun b3 w1 hH2 => va (v := U 0#64) rfl <| RL.nil <| SR <| V (run_ldRel underlying56 rfl rfl rfl (hH2.blk (i := 0) rfl)) <| mI rfl <| RL.callP rfl hH2 (c_hasse_below _ _  _ (hT.hp hH2)) (run_call2 call51 rfl rfl) <| fun w4 hH5 => aU rfl <| RL.nil <| CW.ret <| outP1 Tryd.results44 (congrArg U ?_) hH5.below
 rfl
theorem c_hasse_Point (r : Rl) (s : BitVec 64) (w : World) (hT : Tab w) : Calls Tryd.prog 46 #[.agg (relC r), U s] w (Pure (.tuple #[I (pointV r s).1, B (pointV r s).2]) w) := by
 have hp := pts_bd r
 have hnn : (newR r.n).n = pts r := rfl
 refine enter Tryd.func46 rfl Tryd.ntmps46 rfl <| have hH := Hp.start w; SR <| RL.new rfl hH (f := fun b => (.pointer (some ⟨b, 0, none⟩))) (run_box (v := .agg _) rfl) <| fun b3 w1 hH2 => va (v := I 0) rfl <| va (v := B false) rfl <| RL.nil <| CW.seq <| SR <| V (fA underlying56 0 rfl sizeOf3 rfl) <| V (run_ld underlying3 rfl rfl (hH2.cell (i := 0) rfl (relC_N _))) <| RL.callP rfl hH2 (c_relate_New _  _) (run_call1 call54 rfl) <| fun w4 hH5 => V (run_field underlying56 rfl isAgg3 rfl (relC_N _)) <| vm (v := I 0) rfl <| RL.nil <| CW.block <| CW.loop (G := Int) (fun k s' w' => (Fr (rg 4 3 (rg 11 10 [])) _ s') ∧ (Hp w w' _) ∧ (s' 11 = I k) ∧ (0 ≤ k) ∧ (k ≤ pts r) ∧ (∀ j : Int, 0 ≤ j → j < k → belowR r j ≠ s)) (fun k => (pts r - k).toNat) (0) ⟨Fr.refl _ _, hH5, rfl, (by omega), (by omega), fun j x y => absurd y (by omega)⟩ <| ?_
 rintro k sg6 w6 ⟨fr6, hH6, e11_6, h0, hk, hg⟩
 have e1_6 := fr6.uu 1 rfl rfl
 have e2_6 := fr6.pp 2 rfl rfl
 have e10_6 := fr6.ii 10 rfl rfl
 refine SR <| V (run_lss e11_6 e10_6) <| RL.nil <| CW.seq <| CW.condP rfl (fun h8 => ?_) (fun h8 => ?_)
 ·refine CW.skip <| CW.seq <| CW.block <| SR <| vm e11_6 <| aI rfl <| RL.nil <| SR <| V (run_ldRel underlying56 rfl rfl e2_6 (hH6.blk (i := 0) rfl)) <| mI rfl <| RL.callP rfl hH6 (c_hasse_Word _ _  _ (hT.hp hH6)) (run_call2 call44 rfl rfl) <| fun w9 hH10 => vm e1_6 <| V (run_eqlU rfl rfl) <| RL.nil <| CW.condP rfl (fun h12 => ?_) (fun h12 => ?_)
  ·refine SR <| mI rfl <| aI rfl <| va (v := B true) rfl <| RL.nil <| CW.ret <| ?_
   refine outP2 Tryd.results46 (congrArg I ?_) (congrArg B ?_) hH10.below <;> rw [point_yes h0 (by omega) ‹_› hg]
  ·refine CW.skip <| CW.region <| V (run_add e11_6 rfl (by omega)) <| mI rfl <| RL.nil <| ?_
   refine ⟨k + 1, ?_, fr6.u4.u4.u1.u1, hH10, (congrArg I (by rfl)), ?_, ?_, ?_⟩
   ·((try dsimp only); omega)
   ·omega
   ·omega
   ·exact fun j x y => if e : j = k then e ▸ ‹¬ belowR r k = s› else hg j x (by omega)
 ·refine CW.exit (id := 0) rfl <| SR <| va (v := I 0) rfl <| va (v := B false) rfl <| RL.nil <| CW.ret <| ?_
  refine outP2 Tryd.results46 (congrArg I ?_) (congrArg B ?_) hH6.below <;> rw [point_no (by omega) hg]
theorem c_hasse_Raise (r : Rl) (a b : BitVec 64) (w : World) (hT : Tab w) : Calls Tryd.prog 41 #[.agg (relC r), U a, U b] w (Pure (U (raiseV r a b)) w) := by
 refine enter Tryd.func41 rfl Tryd.ntmps41 rfl <| have hH := Hp.start w; SR <| RL.new rfl hH (f := fun b => (.pointer (some ⟨b, 0, none⟩))) (run_box (v := .agg _) rfl) <| fun b3 w1 hH2 => va (v := U 0#64) rfl <| RL.nil <| CW.seq <| SR <| V (run_ldRel underlying56 rfl rfl rfl (hH2.blk (i := 0) rfl)) <| mU rfl <| RL.callP rfl hH2 (c_hasse_Point _ _  _ (hT.hp hH2)) (run_call2 call46 rfl rfl) <| fun w4 hH5 => ?_
 refine V (run_move (by conv => lhs; whnf)) ?_
 refine V (run_extract rfl (v := I _) rfl) <| V (run_extract rfl (v := B _) rfl) <| aI rfl <| aB rfl <| RL.nil <| SR <| mB rfl <| RL.nil <| CW.cond rfl (fun h7 => ?_) (fun h7 => ?_)
 ·refine SR <| V (run_ldRel underlying56 rfl rfl rfl (hH5.blk (i := 0) rfl)) <| mU rfl <| RL.callP rfl hH5 (c_hasse_Point _ _  _ (hT.hp hH5)) (run_call2 call46 rfl rfl) <| fun w8 hH9 => ?_
  refine V (run_move (by conv => lhs; whnf)) ?_
  refine V (run_extract rfl (v := I _) rfl) <| V (run_extract rfl (v := B _) rfl) <| aI rfl <| aB rfl <| RL.nil <| SR <| mB rfl <| RL.nil <| CW.cond rfl (fun h11 => ?_) (fun h11 => ?_)
  ·refine SR <| V (run_ldRel underlying56 rfl rfl rfl (hH9.blk (i := 0) rfl)) <| mI rfl <| mI rfl <| RL.callP rfl hH9 (c_hasse_Join _ _ _  _ (hT.hp hH9)) (run_call3 call45 rfl rfl rfl) <| fun w12 hH13 => ?_
   refine V (run_move (by conv => lhs; whnf)) ?_
   refine V (run_extract rfl (v := I _) rfl) <| V (run_extract rfl (v := B _) rfl) <| aI rfl <| aB rfl <| RL.nil <| SR <| mB rfl <| RL.nil <| CW.cond rfl (fun h15 => ?_) (fun h15 => ?_)
   ·refine SR <| V (run_ldRel underlying56 rfl rfl rfl (hH13.blk (i := 0) rfl)) <| mI rfl <| RL.callP rfl hH13 (c_hasse_Word _ _  _ (hT.hp hH13)) (run_call2 call44 rfl rfl) <| fun w16 hH17 => aU rfl <| RL.nil <| CW.ret <| outP1 Tryd.results41 (congrArg U ?_) hH17.below
    rw [raise_yes ‹_› ‹_› ‹_›]
   ·refine CW.skip <| SR <| mU rfl <| mU rfl <| V (run_orU rfl rfl) <| aU rfl <| RL.nil <| CW.ret <| outP1 Tryd.results41 (congrArg U ?_) hH13.below
    rw [raise_no3 ‹_›]
  ·refine CW.skip <| SR <| mU rfl <| mU rfl <| V (run_orU rfl rfl) <| aU rfl <| RL.nil <| CW.ret <| outP1 Tryd.results41 (congrArg U ?_) hH9.below
   rw [raise_no2 ‹_›]
 ·refine CW.skip <| SR <| mU rfl <| mU rfl <| V (run_orU rfl rfl) <| aU rfl <| RL.nil <| CW.ret <| outP1 Tryd.results41 (congrArg U ?_) hH5.below
  rw [raise_no1 ‹_›]
theorem c_shape_Leq (a b : El) (w : World) : Calls Tryd.prog 16 #[.agg (elC a), .agg (elC b)] w (Pure (B (leqE a b)) w) := by
 refine enter Tryd.func16 rfl Tryd.ntmps16 rfl <| have hH := Hp.start w; SR <| RL.new rfl hH (f := fun b => (.pointer (some ⟨b, 0, none⟩))) (run_box (v := .agg _) rfl) <| fun b3 w1 hH2 => RL.new rfl hH2 (f := fun b => (.pointer (some ⟨b, 0, none⟩))) (run_box (v := .agg _) rfl) <| fun b6 w4 hH5 => va (v := B false) rfl <| RL.nil <| CW.seq <| SR <| vm (v := I 0) rfl <| RL.nil <| CW.block <| CW.loop (G := Int) (fun k s' w' => (Fr (rg 4 14 []) _ s') ∧ (Hp w w' _) ∧ (s' 6 = I k) ∧ (0 ≤ k) ∧ (k ≤ 8) ∧ (∀ j : Int, 0 ≤ j → j < k → subB (a j.toNat) (b j.toNat) = true)) (fun k => (8 - k).toNat) (0) ⟨Fr.refl _ _, hH5, rfl, (by omega), (by omega), fun j u v => absurd v (by omega)⟩ <| ?_
 rintro k sg7 w7 ⟨fr7, hH7, e6_7, h0, hk, hf⟩
 have e2_7 := fr7.pp 2 rfl rfl
 have e3_7 := fr7.pp 3 rfl rfl
 refine SR <| V (run_lss e6_7 rfl) <| RL.nil <| CW.seq <| CW.condP rfl (fun h9 => ?_) (fun h9 => ?_)
 ·refine CW.skip <| CW.seq <| CW.block <| SR <| vm e6_7 <| aI rfl <| RL.nil <| CW.seq <| CW.regionD (by kernel_rfl) hH7 <| fun w10 hH11 => have zh11 := hH11.sub sR; AQ 0 rfl zh11 (mV (I _) rfl) <| AQ 1 rfl zh11 (run_indexAddrA underlying43 sizeOf41 e2_7 rfl (by omega)) <| AT 2 rfl zh11 (fun w hS => run_ld underlying41 rfl rfl (hS.cell (i := 1) rfl (elC_at _ (by omega)))) <| AQ 3 rfl zh11 (mV (I _) rfl) <| AQ 4 rfl zh11 (run_indexAddrA underlying43 sizeOf41 e3_7 rfl (by omega)) <| AT 5 rfl zh11 (fun w hS => run_ld underlying41 rfl rfl (hS.cell (i := 0) rfl (elC_at _ (by omega)))) <| A1 6 <| AO.callP rfl gnone rfl hH11 sR (c_mask_Sub _ _  _) (run_call2 call31 rfl rfl) <| fun w12 hH13 => AQ 7 rfl (hH13.sub sR) (run_not rfl) <| AD <| CW.cond rfl (fun h16 => ?_) (fun h16 => ?_)
  ·refine SR <| va (v := B false) rfl <| RL.nil <| CW.ret <| outP1 Tryd.results16 (congrArg B ?_) hH13.below
   exact (leq_no h0 ‹_› (nt ‹_›)).symm
  ·refine CW.skip <| CW.region <| V (run_add e6_7 rfl (by omega)) <| mI rfl <| RL.nil <| ?_
   refine ⟨k + 1, ?_, fr7.u4.u4.u4.u1, hH13, (congrArg I (by rfl)), ?_, ?_, ?_⟩
   ·((try dsimp only); omega)
   ·omega
   ·omega
   ·exact fun j u v => if e : j = k then e ▸ nf ‹_› else hf j u (by omega)
 ·refine CW.exit (id := 0) rfl <| SR <| va (v := B true) rfl <| RL.nil <| CW.ret <| outP1 Tryd.results16 (congrArg B ?_) hH7.below
  exact (leq_yes ‹_› hf).symm
theorem c_shape_Join (s : Shp) (a b : El) (w : World) (hs : ShpV (Kw w) s) (hT : Tab w) : Calls Tryd.prog 36 #[.agg (shpC s), .agg (elC a), .agg (elC b)] w (Pure (.agg (elC (joinS s.sh a b))) w) := by
 have hsl := sh_len s
 have hm := hs.facs.sl.small
 unfold maxLen at hm
 refine enter Tryd.func36 rfl Tryd.ntmps36 rfl <| have hH := Hp.start w; SR <| RL.new rfl hH (f := fun b => (.pointer (some ⟨b, 0, none⟩))) (run_box (v := .agg _) rfl) <| fun b3 w1 hH2 => RL.new rfl hH2 (f := fun b => (.pointer (some ⟨b, 0, none⟩))) (run_box (v := .agg _) rfl) <| fun b6 w4 hH5 => RL.new rfl hH5 (f := fun b => (.pointer (some ⟨b, 0, none⟩))) (run_box (v := .agg _) rfl) <| fun b9 w7 hH8 => RL.new rfl hH8 (f := fun b => (.pointer (some ⟨b, 0, none⟩))) (run_alloc zero_el) <| fun b12 w10 hH11 => RL.nil <| CW.seq <| SR <| vm (v := I 0) rfl <| RL.nil <| CW.block <| CW.loop (G := Int × El) (fun ⟨k, e1⟩ s' w' => (Fr (rg 7 42 []) _ s') ∧ (Hp w w' (_ :: _ :: .blk b6 (.cells (elC e1) 43 (0, 0)) :: _)) ∧ (s' 8 = I k) ∧ (0 ≤ k) ∧ (k ≤ 8) ∧ (e1 = mixE (joinS s.sh a b) a k)) (fun ⟨k, e1⟩ => (8 - k).toNat) ((0, a)) ⟨Fr.refl _ _, hH11, rfl, (by omega), (by omega), (mix_zero _ _).symm⟩ <| ?_
 rintro ⟨k, e1⟩ sg13 w13 ⟨fr13, hH13, e8_13, h0, hk, hr⟩
 have e3_13 := fr13.pp 3 rfl rfl
 have e4_13 := fr13.pp 4 rfl rfl
 have e5_13 := fr13.pp 5 rfl rfl
 have e6_13 := fr13.pp 6 rfl rfl
 refine SR <| V (run_lss e8_13 rfl) <| RL.nil <| CW.seq <| CW.condP rfl (fun h15 => ?_) (fun h15 => ?_)
 ·refine CW.skip <| CW.seq <| CW.block <| SR <| vm e8_13 <| aI rfl <| RL.nil <| CW.seq <| SR <| mI rfl <| V (fA underlying24 1 rfl sizeOf22 e3_13) <| V (run_ld underlying22 rfl rfl (hH13.cell (i := 3) rfl rfl)) <| V (run_lenSl (hs.facs.sl.hp hH13) rfl underlying22 rfl) <| V (run_lss rfl rfl) <| mB rfl <| RL.splitP (dj := 16) rfl (fun h17 => ?_) (fun h17 => ?_)
  ·refine gT rfl (bT h17) <| V (fA underlying24 1 rfl sizeOf22 e3_13) <| gT rfl (bT h17) <| V (run_ld underlying22 rfl rfl (hH13.cell (i := 3) rfl rfl)) <| gT rfl (bT h17) <| mI rfl <| gT rfl (bT h17) <| V (run_indexAddrS (hs.facs.sl.hp hH13) underlying22 sizeOf58 rfl rfl (by omega)) <| gT rfl (bT h17) <| V (fA underlying58 0 rfl sizeOf3 rfl) <| gT rfl (bT h17) <| V (run_ldE1 (dv := fac0) facL_len (hs.facs.sl.hp hH13) underlying3 rfl rfl (by omega) rfl) <| gT rfl (bT h17) <| V (run_eql rfl rfl) <| V (run_pickT (bT h17) (v := B _) rfl) <| RL.nil <| CW.condP rfl (fun h19 => ?_) (fun h19 => ?_)
   ·refine CW.seq <| CW.regionS (by kernel_rfl) hH13 (sP (sP (sQ sR))) <| fun w20 hH21 => have zh21 := hH21.sub (sP (sP (sQ sR))); AQ 0 rfl zh21 (mV (I _) rfl) <| AQ 1 rfl zh21 (fA underlying24 1 rfl sizeOf22 e3_13) <| AT 2 rfl zh21 (fun w hS => run_ld underlying22 rfl rfl (hS.cell (i := 2) rfl rfl)) <| AQ 3 rfl zh21 (mV (I _) rfl) <| AT 4 rfl zh21 (fun w hS => run_indexAddrS (hs.facs.sl.hp hS) underlying22 sizeOf58 rfl rfl (by omega)) <| AQ 5 rfl zh21 (fA underlying58 2 rfl sizeOf56 rfl) <| AT 6 rfl zh21 (fun w hS => run_ldFR (hs.facs.sl.hp hS) underlying56 rfl rfl rfl (by omega)) <| AQ 7 rfl zh21 (mV (I _) rfl) <| AQ 8 rfl zh21 (run_indexAddrA underlying43 sizeOf41 e4_13 rfl (by omega)) <| AQ 10 rfl zh21 (mV (I _) rfl) <| AQ 11 rfl zh21 (run_indexAddrA underlying43 sizeOf41 e5_13 rfl (by omega)) <| AT 12 rfl zh21 (fun w hS => run_ld underlying41 rfl rfl (hS.cell (i := 1) rfl (elC_at _ (by omega)))) <| A1 9 <| AO.read rfl gnone rfl hH21 (sP (sP (sQ sR))) (run_ld underlying41 rfl rfl (hH21.cell (i := 2) rfl (elC_at _ (by omega)))) <| A1 13 <| AO.callP rfl gnone rfl hH21 (sP (sP (sQ sR))) (c_hasse_Raise _ _ _  _ (hT.hp hH21)) (run_call3 call41 rfl rfl rfl) <| fun w24 hH25 => AQ 14 rfl (hH25.sub (sP (sP (sQ sR)))) (run_indexAddrA underlying43 sizeOf41 e4_13 rfl (by omega)) <| A1 15 <| AO.set rfl gnone hH25 (j := 2) rfl (sP (sP (sQ sR))) (run_st rfl rfl (v := U _) rfl rfl rfl (hH25.blk (i := 2) rfl) (by rw [elC_size]; omega)) <| fun w28 hH29 => ?_
    simp only [z2] at hH29
    rw [elC_put] at hH29
    refine AD <| CW.exit (id := 1) rfl <| CW.region <| V (run_add e8_13 rfl (by omega)) <| mI rfl <| RL.nil <| ?_
    refine ⟨(k + 1, _), ?_, fr13.u4.u4.u4.u4.u4.u4.u4.u4.u1.u1, hH29, (congrArg I (by rfl)), ?_, ?_, ?_⟩
    ·((try dsimp only); omega)
    ·omega
    ·omega
    ·exact join_put4 hr h0 ‹_› ‹_›
   ·refine CW.skip <| CW.regionS (by kernel_rfl) hH13 (sP (sP (sQ sR))) <| fun w30 hH31 => have zh31 := hH31.sub (sP (sP (sQ sR))); AQ 0 rfl zh31 (mV (I _) rfl) <| AQ 1 rfl zh31 (run_indexAddrA underlying43 sizeOf41 e4_13 rfl (by omega)) <| AQ 3 rfl zh31 (mV (I _) rfl) <| AQ 4 rfl zh31 (run_indexAddrA underlying43 sizeOf41 e5_13 rfl (by omega)) <| AT 5 rfl zh31 (fun w hS => run_ld underlying41 rfl rfl (hS.cell (i := 1) rfl (elC_at _ (by omega)))) <| A1 2 <| AO.read rfl gnone rfl hH31 (sP (sP (sQ sR))) (run_ld underlying41 rfl rfl (hH31.cell (i := 2) rfl (elC_at _ (by omega)))) <| AQ 6 rfl zh31 (run_orU rfl rfl) <| AQ 7 rfl zh31 (run_indexAddrA underlying43 sizeOf41 e4_13 rfl (by omega)) <| A1 8 <| AO.set rfl gnone hH31 (j := 2) rfl (sP (sP (sQ sR))) (run_st rfl rfl (v := U _) rfl rfl rfl (hH31.blk (i := 2) rfl) (by rw [elC_size]; omega)) <| fun w36 hH37 => ?_
    simp only [z2] at hH37
    rw [elC_put] at hH37
    refine AD <| CW.region <| V (run_add e8_13 rfl (by omega)) <| mI rfl <| RL.nil <| ?_
    refine ⟨(k + 1, _), ?_, fr13.u4.u4.u4.u4.u4.u4.u1.u1.u1, hH37, (congrArg I (by rfl)), ?_, ?_, ?_⟩
    ·((try dsimp only); omega)
    ·omega
    ·omega
    ·exact join_putO hr h0 (fun hc => absurd hc.1 (by omega))
  ·refine gF rfl (bF h17) <| gF rfl (bF h17) <| gF rfl (bF h17) <| gF rfl (bF h17) <| gF rfl (bF h17) <| gF rfl (bF h17) <| gF rfl (bF h17) <| V (run_pickF (bF h17) (v := B false) rfl) <| RL.nil <| CW.condF rfl <| CW.skip <| CW.regionS (by kernel_rfl) hH13 (sP (sP (sQ sR))) <| fun w38 hH39 => have zh39 := hH39.sub (sP (sP (sQ sR))); AQ 0 rfl zh39 (mV (I _) rfl) <| AQ 1 rfl zh39 (run_indexAddrA underlying43 sizeOf41 e4_13 rfl (by omega)) <| AQ 3 rfl zh39 (mV (I _) rfl) <| AQ 4 rfl zh39 (run_indexAddrA underlying43 sizeOf41 e5_13 rfl (by omega)) <| AT 5 rfl zh39 (fun w hS => run_ld underlying41 rfl rfl (hS.cell (i := 1) rfl (elC_at _ (by omega)))) <| A1 2 <| AO.read rfl gnone rfl hH39 (sP (sP (sQ sR))) (run_ld underlying41 rfl rfl (hH39.cell (i := 2) rfl (elC_at _ (by omega)))) <| AQ 6 rfl zh39 (run_orU rfl rfl) <| AQ 7 rfl zh39 (run_indexAddrA underlying43 sizeOf41 e4_13 rfl (by omega)) <| A1 8 <| AO.set rfl gnone hH39 (j := 2) rfl (sP (sP (sQ sR))) (run_st rfl rfl (v := U _) rfl rfl rfl (hH39.blk (i := 2) rfl) (by rw [elC_size]; omega)) <| fun w44 hH45 => ?_
   simp only [z2] at hH45
   rw [elC_put] at hH45
   refine AD <| CW.region <| V (run_add e8_13 rfl (by omega)) <| mI rfl <| RL.nil <| ?_
   refine ⟨(k + 1, _), ?_, fr13.u4.u4.u4.u4.u4.u4.u1.u1.u1, hH45, (congrArg I (by rfl)), ?_, ?_, ?_⟩
   ·((try dsimp only); omega)
   ·omega
   ·omega
   ·exact join_putO hr h0 (fun hc => absurd hc.1 (by omega))
 ·refine CW.exit (id := 0) rfl <| SR <| V (run_ldEl underlying43 rfl rfl e4_13 (hH13.blk (i := 2) rfl)) <| RL.set hH13 (i := 0) rfl (run_stEl rfl e6_13 rfl (hH13.blk (i := 0) rfl)) <| fun w46 hH47 => ?_
  simp only [z2] at hH47
  refine RL.nil <| CW.ret <| outCg Tryd.results36 e6_13 hH47 (i := 0) rfl underlying43 rfl (by rw [elC_size]; rfl) ⟨?_, hH47.below⟩
  (exact congrArg Value.agg (elC_congr (by rw [hr]; exact mix_all ‹_›)))
theorem c_shape_Meet (a b : El) (w : World) : Calls Tryd.prog 37 #[.agg (elC a), .agg (elC b)] w (Pure (.agg (elC (meetE a b))) w) := by
 refine enter Tryd.func37 rfl Tryd.ntmps37 rfl <| have hH := Hp.start w; SR <| RL.new rfl hH (f := fun b => (.pointer (some ⟨b, 0, none⟩))) (run_box (v := .agg _) rfl) <| fun b3 w1 hH2 => RL.new rfl hH2 (f := fun b => (.pointer (some ⟨b, 0, none⟩))) (run_box (v := .agg _) rfl) <| fun b6 w4 hH5 => RL.new rfl hH5 (f := fun b => (.pointer (some ⟨b, 0, none⟩))) (run_alloc zero_el) <| fun b9 w7 hH8 => RL.nil <| CW.seq <| SR <| vm (v := I 0) rfl <| RL.nil <| CW.block <| CW.loop (G := Int × El) (fun ⟨k, e1⟩ s' w' => (Fr (rg 5 13 []) _ s') ∧ (Hp w w' (_ :: _ :: .blk b3 (.cells (elC e1) 43 (0, 0)) :: _)) ∧ (s' 6 = I k) ∧ (0 ≤ k) ∧ (k ≤ 8) ∧ (e1 = mixE (meetE a b) a k)) (fun ⟨k, e1⟩ => (8 - k).toNat) ((0, a)) ⟨Fr.refl _ _, hH8, rfl, (by omega), (by omega), (mix_zero _ _).symm⟩ <| ?_
 rintro ⟨k, e1⟩ sg10 w10 ⟨fr10, hH10, e6_10, h0, hk, hr⟩
 have e2_10 := fr10.pp 2 rfl rfl
 have e3_10 := fr10.pp 3 rfl rfl
 have e4_10 := fr10.pp 4 rfl rfl
 refine SR <| V (run_lss e6_10 rfl) <| RL.nil <| CW.seq <| CW.condP rfl (fun h12 => ?_) (fun h12 => ?_)
 ·refine CW.skip <| CW.seq <| CW.block <| SR <| vm e6_10 <| aI rfl <| RL.nil <| CW.regionS (by kernel_rfl) hH10 (sP (sP (sQ sR))) <| fun w13 hH14 => have zh14 := hH14.sub (sP (sP (sQ sR))); AQ 0 rfl zh14 (mV (I _) rfl) <| AQ 1 rfl zh14 (run_indexAddrA underlying43 sizeOf41 e2_10 rfl (by omega)) <| AQ 3 rfl zh14 (mV (I _) rfl) <| AQ 4 rfl zh14 (run_indexAddrA underlying43 sizeOf41 e3_10 rfl (by omega)) <| AT 5 rfl zh14 (fun w hS => run_ld underlying41 rfl rfl (hS.cell (i := 1) rfl (elC_at _ (by omega)))) <| A1 2 <| AO.read rfl gnone rfl hH14 (sP (sP (sQ sR))) (run_ld underlying41 rfl rfl (hH14.cell (i := 2) rfl (elC_at _ (by omega)))) <| AQ 6 rfl zh14 (run_andU rfl rfl) <| AQ 7 rfl zh14 (run_indexAddrA underlying43 sizeOf41 e2_10 rfl (by omega)) <| A1 8 <| AO.set rfl gnone hH14 (j := 2) rfl (sP (sP (sQ sR))) (run_st rfl rfl (v := U _) rfl rfl rfl (hH14.blk (i := 2) rfl) (by rw [elC_size]; omega)) <| fun w19 hH20 => ?_
  simp only [z2] at hH20
  rw [elC_put] at hH20
  refine AD <| CW.region <| V (run_add e6_10 rfl (by omega)) <| mI rfl <| RL.nil <| ?_
  refine ⟨(k + 1, _), ?_, fr10.u4.u4.u4.u1, hH20, (congrArg I (by rfl)), ?_, ?_, ?_⟩
  ·((try dsimp only); omega)
  ·omega
  ·omega
  ·exact meet_put hr h0
 ·refine CW.exit (id := 0) rfl <| SR <| V (run_ldEl underlying43 rfl rfl e2_10 (hH10.blk (i := 2) rfl)) <| RL.set hH10 (i := 0) rfl (run_stEl rfl e4_10 rfl (hH10.blk (i := 0) rfl)) <| fun w21 hH22 => ?_
  simp only [z2] at hH22
  refine RL.nil <| CW.ret <| outCg Tryd.results37 e4_10 hH22 (i := 0) rfl underlying43 rfl (by rw [elC_size]; rfl) ⟨?_, hH22.below⟩
  (exact congrArg Value.agg (elC_congr (by rw [hr]; exact mix_all ‹_›)))
theorem c_clearancelaw07_Big (s : Shp) (w : World) (hs : ShpV (Kw w) s) : Calls Tryd.prog 4 #[.agg (shpC s)] w (Pure (B (bigS s.sh)) w) := by
 have hsl := sh_len s
 have hm := hs.facs.sl.small
 unfold maxLen at hm
 refine enter Tryd.func4 rfl Tryd.ntmps4 rfl <| have hH := Hp.start w; SR <| RL.new rfl hH (f := fun b => (.pointer (some ⟨b, 0, none⟩))) (run_box (v := .agg _) rfl) <| fun b3 w1 hH2 => va (v := B false) rfl <| RL.nil <| CW.seq <| SR <| V (fA underlying24 1 rfl sizeOf22 rfl) <| V (run_ld underlying22 rfl rfl (hH2.cell (i := 0) rfl rfl)) <| V (run_lenSl (hs.facs.sl.hp hH2) rfl underlying22 rfl) <| V (run_gtr rfl rfl) <| RL.nil <| CW.condP rfl (fun h5 => ?_) (fun h5 => ?_)
 ·refine SR <| va (v := B true) rfl <| RL.nil <| CW.ret <| outP1 Tryd.results4 (congrArg B ?_) hH2.below
  exact (big_1 (s := s.sh) (by omega)).symm
 ·refine CW.skip <| CW.seq <| SR <| va (v := I 0) rfl <| RL.nil <| CW.block <| CW.loop (G := Int) (fun k s' w' => (Fr (rg 2 4 (rg 10 30 [])) _ s') ∧ (Hp w w' _) ∧ (s' 3 = I k) ∧ (0 ≤ k) ∧ (k ≤ s.facs.length) ∧ (∀ j : Int, 0 ≤ j → j < k → bigN (s.facs.getD j.toNat fac0).names = false)) (fun k => (s.facs.length - k).toNat) (0) ⟨Fr.refl _ _, hH2, rfl, (by omega), (by omega), fun j a b => absurd b (by omega)⟩ <| ?_
  rintro k sg6 w6 ⟨fr6, hH6, e3_6, h0, hk, hg⟩
  have e1_6 := fr6.pp 1 rfl rfl
  refine CW.seq <| SR <| vm e3_6 <| V (fA underlying24 1 rfl sizeOf22 e1_6) <| V (run_ld underlying22 rfl rfl (hH6.cell (i := 0) rfl rfl)) <| V (run_lenSl (hs.facs.sl.hp hH6) rfl underlying22 rfl) <| V (run_lss rfl rfl) <| RL.nil <| CW.condP rfl (fun h8 => ?_) (fun h8 => ?_)
  ·refine CW.skip <| CW.seq <| CW.block <| SR <| V (fA underlying24 1 rfl sizeOf22 e1_6) <| V (run_ld underlying22 rfl rfl (hH6.cell (i := 0) rfl rfl)) <| vm e3_6 <| V (run_indexAddrS (hs.facs.sl.hp hH6) underlying22 sizeOf58 rfl rfl (by omega)) <| V (run_ldE (dv := fac0) facL_len (hs.facs.sl.hp hH6) underlying58 rfl rfl rfl (by omega)) <| RL.new rfl hH6 (f := fun b => (.pointer (some ⟨b, 0, none⟩))) (run_alloc zero_fac) <| fun b11 w9 hH10 => RL.set hH10 (i := 0) rfl (run_stFac (hs.at (by omega) (by omega)) rfl rfl rfl (hH10.blk (i := 0) rfl)) <| fun w12 hH13 => ?_
   simp only [z2] at hH13
   refine RL.nil <| CW.seq <| SR <| V (fA underlying58 1 rfl sizeOf53 rfl) <| V (run_ld underlying53 rfl rfl (hH13.cell (i := 0) rfl rfl)) <| V (run_lenSl ((hs.at (by omega) (by omega)).names.sl.hp hH13) rfl underlying53 rfl) <| V (run_gtr rfl rfl) <| RL.nil <| CW.condP rfl (fun h15 => ?_) (fun h15 => ?_)
   ·refine SR <| va (v := B true) rfl <| RL.nil <| CW.ret <| outP1 Tryd.results4 (congrArg B ?_) hH13.below
    exact (big_2 (s := s.sh) (k := k) h0 (by omega) (by rw [sh_get]; (exact bigN_1 (by show 70 < (s.facs.getD k.toNat fac0).names.length; omega)))).symm
   ·refine CW.skip <| SR <| va (v := I 0) rfl <| RL.nil <| CW.block <| have hnb : (s.facs.getD k.toNat fac0).names.length ≤ 70 := (by omega); CW.loop (G := Int) (fun i s' w' => (Fr (2 :: (5 :: (rg 26 14 []))) _ s') ∧ (Hp w w' _) ∧ (s' 5 = I i) ∧ (0 ≤ i) ∧ (i ≤ (s.facs.getD k.toNat fac0).names.length) ∧ (∀ j : Int, 0 ≤ j → j < i → ¬ 40 < ((s.facs.getD k.toNat fac0).names.getD j.toNat tx0).size)) (fun i => ((s.facs.getD k.toNat fac0).names.length - i).toNat) (0) ⟨Fr.refl _ _, hH13, rfl, (by omega), (by omega), fun j a b => absurd b (by omega)⟩ <| ?_
    rintro i sg16 w16 ⟨fr16, hH16, e5_16, i0, i1, hn⟩
    have e3_16 := (fr16 3 rfl).trans e3_6
    have e4_16 := fr16.pp 4 rfl rfl
    refine CW.seq <| SR <| vm e5_16 <| V (fA underlying58 1 rfl sizeOf53 e4_16) <| V (run_ld underlying53 rfl rfl (hH16.cell (i := 0) rfl rfl)) <| V (run_lenSl ((hs.at (by omega) (by omega)).names.sl.hp hH16) rfl underlying53 rfl) <| V (run_lss rfl rfl) <| RL.nil <| CW.condP rfl (fun h18 => ?_) (fun h18 => ?_)
    ·refine CW.skip <| CW.seq <| CW.block <| SR <| V (fA underlying58 1 rfl sizeOf53 e4_16) <| V (run_ld underlying53 rfl rfl (hH16.cell (i := 0) rfl rfl)) <| vm e5_16 <| V (run_indexAddrS ((hs.at (by omega) (by omega)).names.sl.hp hH16) underlying53 sizeOf9 rfl rfl (by omega)) <| V (run_ld underlying9 rfl rfl (((hs.at (by omega) (by omega)).names.sl.hp hH16).cell _ _ (txL_at (by omega)))) <| V (run_lenStr rfl underlying9 rfl) <| V (run_gtr rfl rfl) <| RL.nil <| CW.condP rfl (fun h20 => ?_) (fun h20 => ?_)
     ·refine SR <| va (v := B true) rfl <| RL.nil <| CW.ret <| outP1 Tryd.results4 (congrArg B ?_) hH16.below
      exact (big_2 (s := s.sh) (k := k) h0 (by omega) (by rw [sh_get]; (exact bigN_2 i0 ‹_› (by show 40 < ((s.facs.getD k.toNat fac0).names.getD i.toNat tx0).size; omega)))).symm
     ·refine CW.skip <| CW.region <| vm e5_16 <| V (run_add rfl rfl (by omega)) <| aI rfl <| RL.nil <| ?_
      refine ⟨i + 1, ?_, fr16.u4.u4.u4.u1.u1.u1, hH16, (congrArg I (by rfl)), ?_, ?_, ?_⟩
      ·((try dsimp only); omega)
      ·omega
      ·omega
      ·exact fun j a b => if e : j = i then e ▸ (by omega) else hn j a (by omega)
    ·refine CW.exit (id := 2) rfl <| CW.region <| vm e3_16 <| V (run_add rfl rfl (by omega)) <| aI rfl <| RL.nil <| ?_
     refine ⟨k + 1, ?_, (((fr6.u4.u4.u4.u4).t fr16 rfl)).u4.u4, (hH16.sub (sQ sR)), (congrArg I (by rfl)), ?_, ?_, ?_⟩
     ·((try dsimp only); omega)
     ·omega
     ·omega
     ·exact fun j a b => if e : j = k then e ▸ bigN_no (by omega) ‹¬ i < _› hn else hg j a (by omega)
  ·refine CW.exit (id := 0) rfl <| SR <| va (v := B false) rfl <| RL.nil <| CW.ret <| outP1 Tryd.results4 (congrArg B ?_) hH6.below
   exact (big_no (s := s.sh) (k := k) (by omega) (by omega) fun j a b => by rw [sh_get]; exact hg j a b).symm
theorem c_shape_clone (K : Vu) (f : Fac) (hn : f.names.length ≤ 1000) (w : World) (hK : Le K (Kw w)) (hf : FacV K f) : Calls Tryd.prog 28 #[.agg (facC f)] w (PureF K (fun K' u => ∃ f' : Fac, u = .agg (facC f') ∧ f'.fc = f.fc ∧ FacV K' f') w) := by
 refine enter Tryd.func28 rfl Tryd.ntmps28 rfl <| have hH := Hp.start w; SR <| RL.new rfl hH (f := fun b => (.pointer (some ⟨b, 0, none⟩))) (run_box (v := .agg _) rfl) <| fun b3 w1 hH2 => RL.new rfl hH2 (f := fun b => (.pointer (some ⟨b, 0, none⟩))) (run_alloc zero_fac) <| fun b6 w4 hH5 => RL.nil <| SR <| RL.new rfl hH5 (f := fun b => (.slice (some ⟨b, 0, none⟩) 0 0)) (run_mkE underlying53 sizeOf9) <| fun b9 w7 hH8 => ?_
 (try simp only [clX] at hH8)
 have hH10 := hH8.blkRow 0 1 rfl (by decide)
 refine V (fA underlying58 1 rfl sizeOf53 rfl) <| V (run_ld underlying53 rfl rfl (hH10.cell (i := 2) rfl rfl)) <| RL.app rfl hH10 (i := 0) rfl ((hf.mono hK).names.sl.hp hH10) rfl rfl underlying53 rfl rfl (size := 1) (bytes := 16) rfl rfl rfl (by decide) (by simp [Value.oneCell']) (by omega) (by simp only [maxLen]; omega) <| fun v11 w12 hH13 => ?_
 simp only [z2] at hH13
 refine V (fA underlying58 1 rfl sizeOf53 rfl) <| have hone := (row_cells (hH13.get (i := 0) rfl)).2; RL.set hH13 (i := 2) rfl (run_stFac1 rfl rfl rfl (row_cells (hH13.get (i := 0) rfl)).1 hone (hH13.blk (i := 2) rfl)) <| fun w14 hH15 => ?_
 simp only [z2] at hH15
 refine RL.nil <| SR <| V (run_ldFac underlying58 rfl rfl rfl (hH15.blk (i := 2) rfl)) <| RL.set hH15 (i := 1) rfl (run_stFacO (facC_one2 hf hone) rfl rfl rfl (hH15.blk (i := 1) rfl)) <| fun w16 hH17 => ?_
 simp only [z2] at hH17
 refine RL.nil <| CW.ret <| ?_
 obtain ⟨Zc, hz, hzv, -⟩ := hH17.frz K
 refine outCg Tryd.results28 rfl hH17 (i := 1) rfl underlying58 rfl (by simp only [List.size_toArray, facL_len]; rfl) ⟨Zc, hz.sub (List.sublist_append_left _ _), _, rfl, rfl, ⟨?_⟩⟩
 simpa using hzv
theorem c_shape_Product (K : Vu) (v : Value) (l : List Shp) (hl : l.length ≤ 1000) (hfn : ∀ s ∈ l, s.facs.length ≤ 1000) (hnn : ∀ s ∈ l, ∀ f ∈ s.facs, f.names.length ≤ 1000) (w : World) (hK : Le K (Kw w)) (hs : Sl w v 2 l.length (l.flatMap shpL)) (hv : ShpsV K l) : Calls Tryd.prog 13 #[v] w (PureF K (fun K' u => ∃ p : Shp, u = .agg (shpC p) ∧ p.sh = ⟨true, prodF l⟩ ∧ ShpV K' p) w) := by
 refine enter Tryd.func13 rfl Tryd.ntmps13 rfl <| have hH := Hp.start w; SR <| RL.new rfl hH (f := fun b => (.pointer (some ⟨b, 0, none⟩))) (run_alloc Tryd.zeroValue24) <| fun b3 w1 hH2 => RL.nil <| SR <| V (run_bld (vs := [(0, B true)]) rfl built_shp0) <| RL.new rfl hH2 (f := fun b => (.pointer (some ⟨b, 0, none⟩))) (run_alloc Tryd.zeroValue24) <| fun b6 w4 hH5 => RL.set hH5 (i := 0) rfl (run_stW (c' := #[B true, .slice none 0 0]) rfl rfl rfl (by simp [Value.oneCell']) (hH5.blk (i := 0) rfl) rfl) <| fun w7 hH8 => ?_
 simp only [z2] at hH8
 have hH9 := hH8.nilRow 58 67
 refine RL.nil <| CW.seq <| SR <| ?_
 refine V (run_move (by conv => lhs; whnf)) ?_
 refine V (run_lenSl (hs.hp hH9) rfl underlying75 rfl) <| vm (v := I 0) rfl <| RL.nil <| CW.block <| CW.loop (G := Int × Value × (List Fac) × (List Ent)) (fun ⟨k, fv0, fs, Z⟩ s' w' => (Fr (5 :: (7 :: (rg 11 20 []))) _ s') ∧ (Hp w w' (.row fv0 58 67 (fs.length) (fs.flatMap facL) :: .blk b6 (.cells (#[B true, fv0]) 24 (0, 0)) :: _ :: Z)) ∧ (s' 11 = I k) ∧ (0 ≤ k) ∧ (k ≤ l.length) ∧ (fs.map Fac.fc = prodF (l.take k.toNat)) ∧ (FacsV (Kz K Z) fs) ∧ ((fs.length : Int) ≤ 1000 * k)) (fun ⟨k, fv0, fs, Z⟩ => (l.length - k).toNat) ((0, (.slice none 0 0 : Value), [], [])) ⟨Fr.refl _ _, hH9, rfl, (by omega), (by omega), rfl, FacsV.nil _, (by simp)⟩ <| ?_
 rintro ⟨k, fv0, fs, Z⟩ sg10 w10 ⟨fr10, hH10, e11_10, h0, hk, hm, hF, hb⟩
 have e2_10 := fr10.pp 2 rfl rfl
 have e3_10 := fr10.pp 3 rfl rfl
 have e9_10 := (fr10 9 rfl).trans (by conv => lhs; whnf)
 have e10_10 := fr10.ii 10 rfl rfl
 refine SR <| V (run_lss e11_10 e10_10) <| RL.nil <| CW.seq <| CW.condP rfl (fun h12 => ?_) (fun h12 => ?_)
 ·refine CW.skip <| CW.seq <| CW.block <| SR <| V (run_indexAddrS (hs.hp hH10) underlying75 sizeOf24 e9_10 e11_10 (by omega)) <| V (run_ldE (dv := shp0) shpL_len (hs.hp hH10) underlying24 rfl rfl rfl (by omega)) <| RL.new rfl hH10 (f := fun b => (.pointer (some ⟨b, 0, none⟩))) (run_alloc Tryd.zeroValue24) <| fun b15 w13 hH14 => RL.set hH14 (i := 0) rfl (run_stShp ((hv.mono hK).at (by omega) (by omega)) rfl rfl rfl (hH14.blk (i := 0) rfl) rfl) <| fun w16 hH17 => ?_
  simp only [z2] at hH17
  refine RL.nil <| SR <| V (fA underlying24 1 rfl sizeOf22 rfl) <| V (run_ld underlying22 rfl rfl (hH17.cell (i := 0) rfl rfl)) <| V (run_lenSl (((hv.mono hK).at (by omega) (by omega)).facs.sl.hp hH17) rfl underlying22 rfl) <| vm (v := I 0) rfl <| RL.nil <| CW.block <| have hfk := hfn _ (List.mem_of_getElem? (getD_at (d := shp0) h0 ‹k < l.length›)); CW.loop (G := Int × Value × (List Fac) × (List Ent)) (fun ⟨i, fv1, gs, Z1⟩ s' w' => (Fr (7 :: (rg 18 12 [])) _ s') ∧ (Hp w w' (_ :: .row fv1 58 67 (gs.length) (gs.flatMap facL) :: .blk b6 (.cells (#[B true, fv1]) 24 (0, 0)) :: _ :: Z1)) ∧ (s' 18 = I i) ∧ (0 ≤ i) ∧ (i ≤ (l.getD k.toNat shp0).facs.length) ∧ (gs.map Fac.fc = fs.map Fac.fc ++ ((l.getD k.toNat shp0).facs.take i.toNat).map Fac.fc) ∧ (FacsV (Kz K Z1) gs) ∧ ((gs.length : Int) = fs.length + i)) (fun ⟨i, fv1, gs, Z1⟩ => ((l.getD k.toNat shp0).facs.length - i).toNat) ((0, (fv0 : Value), fs, Z)) ⟨Fr.refl _ _, hH17, rfl, (by omega), (by omega), (by simp), hF, (by simp)⟩ <| ?_
  rintro ⟨i, fv1, gs, Z1⟩ sg18 w18 ⟨fr18, hH18, e18_18, i0, ik, hm1, hF1, hb1⟩
  have e3_18 := (fr18 3 rfl).trans e3_10
  have e11_18 := (fr18 11 rfl).trans e11_10
  have e16_18 := (fr18 16 rfl).trans (by conv => lhs; whnf)
  have e17_18 := fr18.ii 17 rfl rfl
  refine SR <| V (run_lss e18_18 e17_18) <| RL.nil <| CW.seq <| CW.condP rfl (fun h20 => ?_) (fun h20 => ?_)
  ·refine CW.skip <| CW.seq <| CW.block <| SR <| V (run_indexAddrS (((hv.mono hK).at (by omega) (by omega)).facs.sl.hp hH18) underlying22 sizeOf58 e16_18 e18_18 (by omega)) <| V (run_ldE (dv := fac0) facL_len (((hv.mono hK).at (by omega) (by omega)).facs.sl.hp hH18) underlying58 rfl rfl rfl (by omega)) <| RL.new rfl hH18 (f := fun b => (.pointer (some ⟨b, 0, none⟩))) (run_alloc zero_fac) <| fun b23 w21 hH22 => RL.set hH22 (i := 0) rfl (run_stFac (((hv.mono hK).at (by omega) (by omega)).at (by omega) (by omega)) rfl rfl rfl (hH22.blk (i := 0) rfl)) <| fun w24 hH25 => ?_
   simp only [z2] at hH25
   refine RL.nil <| CW.regionS (by kernel_rfl) hH25 (sP (sP (sQ (sQ sR)))) <| fun w26 hH27 => AQ 0 rfl (hH27.sub (sP (sP (sQ (sQ sR))))) (fA underlying24 1 rfl sizeOf22 e3_18) <| AT 2 rfl (hH27.sub (sP (sP (sQ (sQ sR))))) (fun w hS => run_ldFac underlying58 rfl rfl rfl (hS.blk (i := 0) rfl)) <| AN.two 1 3 (by kernel_rfl) ?_ ?_
   ·refine AO.read rfl gnone rfl hH27 (sP (sP (sQ (sQ sR)))) (run_ld underlying22 rfl rfl (hH27.cell (i := 3) rfl rfl)) <| A1 3 <| AO.callF rfl gnone rfl hH27 (sP (sP (sQ (sQ sR)))) (c_shape_clone K ((l.getD k.toNat shp0).facs.getD i.toNat fac0) (hnn _ (List.mem_of_getElem? (getD_at (d := shp0) h0 ‹k < l.length›)) _ (List.mem_of_getElem? (getD_at (d := fac0) i0 ‹_›))) _ (hK.trans hH27.kw) ((hv.at h0 ‹_›).at i0 ‹_›)) (run_call1 call28 rfl) <| fun v32 w33 Z35 hH34 hp36 => have hH37 : Hp _ w33 (_ :: _ :: _ :: _ :: _ :: (Z35 ++ Z1)) := hH34.zin (L := [_, _, _, _, _]) (L' := Z1); ?_
    obtain ⟨f38, rfl, hfc39, hfv40⟩ := hp36
    refine A1 4 <| AO.new rfl gnone rfl hH37 (sP (sP (sQ (sQ (sP (sA sR)))))) (f := fun b => .slice (some ⟨b, 0, none⟩) 1 1) (run_mkFacs underlying22 rfl rfl rfl (l := [_]) rfl (by decide) (by decide) rfl) <| fun b43 w41 hH42 => A1 5 <| AO.app rfl gnone rfl hH42 (j := 3) rfl (fun _ => (sQ (sP (sP (sQ (sQ (sP (sA sR)))))))) (Hp.slFlat facL_len hH42 (i := 0) (l := [_]) rfl (by simp [maxLen])) rfl rfl underlying22 rfl rfl (size := 67) (bytes := 552) rfl rfl rfl (by decide) (fac1_one hfv40) (by show (gs.length + 1) * _ ≤ _; omega) (by show gs.length + 1 ≤ _; simp only [maxLen]; omega) <| fun v46 w44 hH45 => ?_
    simp only [z2] at hH45
    refine AQ 6 rfl (hH45.sub (sQ (sP (sP (sQ (sQ (sP (sA sR)))))))) (fA underlying24 1 rfl sizeOf22 e3_18) <| A1 7 <| AO.set rfl gnone hH45 (j := 4) rfl (sQ (sP (sP (sQ (sQ (sP (sA sR))))))) (run_st rfl rfl (v := v46) rfl (row_cells (hH45.get (i := 3) rfl)).1 (row_cells (hH45.get (i := 3) rfl)).2 (hH45.blk (i := 4) rfl) (by simp)) <| fun w49 hH50 => ?_
    simp only [z2] at hH50
    refine AD <| CW.region <| V (run_add e18_18 rfl (by omega)) <| mI rfl <| RL.nil <| ?_
    refine ⟨(i + 1, v46, (gs ++ [f38]), (Z35 ++ Z1)), ?_, fr18.u4.u4.u4.u1, (Hp.conv (hH50.sub (sQ (sQ sR))) (by simp)), (congrArg I (by rfl)), ?_, ?_, ?_, ?_, ?_⟩
    ·((try dsimp only); omega)
    ·omega
    ·omega
    ·rw [facs_next i0 ‹_›, List.map_append, hm1, List.append_assoc]; simp only [List.map_cons, List.map_nil]; rw [hfc39]
    ·exact (hF1.mono (Le.zz fun y hy => List.mem_append_right _ hy)).snoc (hfv40.mono (Le.zz fun y hy => List.mem_append_left _ hy))
    ·simp only [List.length_append, List.length_singleton]; omega
   ·refine AO.callF rfl gnone rfl hH27 (sP (sP (sQ (sQ sR)))) (c_shape_clone K ((l.getD k.toNat shp0).facs.getD i.toNat fac0) (hnn _ (List.mem_of_getElem? (getD_at (d := shp0) h0 ‹k < l.length›)) _ (List.mem_of_getElem? (getD_at (d := fac0) i0 ‹_›))) _ (hK.trans hH27.kw) ((hv.at h0 ‹_›).at i0 ‹_›)) (run_call1 call28 rfl) <| fun v53 w54 Z56 hH55 hp57 => have hH58 : Hp _ w54 (_ :: _ :: _ :: _ :: _ :: (Z56 ++ Z1)) := hH55.zin (L := [_, _, _, _, _]) (L' := Z1); ?_
    obtain ⟨f59, rfl, hfc60, hfv61⟩ := hp57
    refine AN.two 1 4 (by kernel_rfl) ?_ ?_
    ·refine AO.read rfl gnone rfl hH58 (sP (sP (sQ (sQ (sP (sA sR)))))) (run_ld underlying22 rfl rfl (hH58.cell (i := 3) rfl rfl)) <| A1 4 <| AO.new rfl gnone rfl hH58 (sP (sP (sQ (sQ (sP (sA sR)))))) (f := fun b => .slice (some ⟨b, 0, none⟩) 1 1) (run_mkFacs underlying22 rfl rfl rfl (l := [_]) rfl (by decide) (by decide) rfl) <| fun b66 w64 hH65 => A1 5 <| AO.app rfl gnone rfl hH65 (j := 3) rfl (fun _ => (sQ (sP (sP (sQ (sQ (sP (sA sR)))))))) (Hp.slFlat facL_len hH65 (i := 0) (l := [_]) rfl (by simp [maxLen])) rfl rfl underlying22 rfl rfl (size := 67) (bytes := 552) rfl rfl rfl (by decide) (fac1_one hfv61) (by show (gs.length + 1) * _ ≤ _; omega) (by show gs.length + 1 ≤ _; simp only [maxLen]; omega) <| fun v69 w67 hH68 => ?_
     simp only [z2] at hH68
     refine AQ 6 rfl (hH68.sub (sQ (sP (sP (sQ (sQ (sP (sA sR)))))))) (fA underlying24 1 rfl sizeOf22 e3_18) <| A1 7 <| AO.set rfl gnone hH68 (j := 4) rfl (sQ (sP (sP (sQ (sQ (sP (sA sR))))))) (run_st rfl rfl (v := v69) rfl (row_cells (hH68.get (i := 3) rfl)).1 (row_cells (hH68.get (i := 3) rfl)).2 (hH68.blk (i := 4) rfl) (by simp)) <| fun w72 hH73 => ?_
     simp only [z2] at hH73
     refine AD <| CW.region <| V (run_add e18_18 rfl (by omega)) <| mI rfl <| RL.nil <| ?_
     refine ⟨(i + 1, v69, (gs ++ [f59]), (Z56 ++ Z1)), ?_, fr18.u4.u4.u4.u1, (Hp.conv (hH73.sub (sQ (sQ sR))) (by simp)), (congrArg I (by rfl)), ?_, ?_, ?_, ?_, ?_⟩
     ·((try dsimp only); omega)
     ·omega
     ·omega
     ·rw [facs_next i0 ‹_›, List.map_append, hm1, List.append_assoc]; simp only [List.map_cons, List.map_nil]; rw [hfc60]
     ·exact (hF1.mono (Le.zz fun y hy => List.mem_append_right _ hy)).snoc (hfv61.mono (Le.zz fun y hy => List.mem_append_left _ hy))
     ·simp only [List.length_append, List.length_singleton]; omega
    ·refine AO.new rfl gnone rfl hH58 (sP (sP (sQ (sQ (sP (sA sR)))))) (f := fun b => .slice (some ⟨b, 0, none⟩) 1 1) (run_mkFacs underlying22 rfl rfl rfl (l := [_]) rfl (by decide) (by decide) rfl) <| fun b76 w74 hH75 => A1 1 <| AO.read rfl gnone rfl hH75 (sQ (sP (sP (sQ (sQ (sP (sA sR))))))) (run_ld underlying22 rfl rfl (hH75.cell (i := 4) rfl rfl)) <| A1 5 <| AO.app rfl gnone rfl hH75 (j := 3) rfl (fun _ => (sQ (sP (sP (sQ (sQ (sP (sA sR)))))))) (Hp.slFlat facL_len hH75 (i := 0) (l := [_]) rfl (by simp [maxLen])) rfl rfl underlying22 rfl rfl (size := 67) (bytes := 552) rfl rfl rfl (by decide) (fac1_one hfv61) (by show (gs.length + 1) * _ ≤ _; omega) (by show gs.length + 1 ≤ _; simp only [maxLen]; omega) <| fun v81 w79 hH80 => ?_
     simp only [z2] at hH80
     refine AQ 6 rfl (hH80.sub (sQ (sP (sP (sQ (sQ (sP (sA sR)))))))) (fA underlying24 1 rfl sizeOf22 e3_18) <| A1 7 <| AO.set rfl gnone hH80 (j := 4) rfl (sQ (sP (sP (sQ (sQ (sP (sA sR))))))) (run_st rfl rfl (v := v81) rfl (row_cells (hH80.get (i := 3) rfl)).1 (row_cells (hH80.get (i := 3) rfl)).2 (hH80.blk (i := 4) rfl) (by simp)) <| fun w84 hH85 => ?_
     simp only [z2] at hH85
     refine AD <| CW.region <| V (run_add e18_18 rfl (by omega)) <| mI rfl <| RL.nil <| ?_
     refine ⟨(i + 1, v81, (gs ++ [f59]), (Z56 ++ Z1)), ?_, fr18.u4.u4.u4.u1, (Hp.conv (hH85.sub (sQ (sQ sR))) (by simp)), (congrArg I (by rfl)), ?_, ?_, ?_, ?_, ?_⟩
     ·((try dsimp only); omega)
     ·omega
     ·omega
     ·rw [facs_next i0 ‹_›, List.map_append, hm1, List.append_assoc]; simp only [List.map_cons, List.map_nil]; rw [hfc60]
     ·exact (hF1.mono (Le.zz fun y hy => List.mem_append_right _ hy)).snoc (hfv61.mono (Le.zz fun y hy => List.mem_append_left _ hy))
     ·simp only [List.length_append, List.length_singleton]; omega
  ·refine CW.exit (id := 2) rfl <| CW.region <| V (run_add e11_18 rfl (by omega)) <| mI rfl <| RL.nil <| ?_
   refine ⟨(k + 1, fv1, gs, Z1), ?_, (((fr10.u4.u4).t fr18 rfl)).u1.u1.u1, (Hp.conv (hH18.sub (sQ sR)) (by rfl)), (congrArg I (by rfl)), ?_, ?_, ?_, ?_, ?_⟩
   ·((try dsimp only); omega)
   ·omega
   ·omega
   ·rw [prod_next h0 ‹_›, ← hm, hm1, List.take_of_length_le (by omega)]; rfl
   ·exact hF1
   ·omega
 ·refine CW.exit (id := 0) rfl <| SR <| V (run_ldA (cs := [B _, _]) underlying24 rfl rfl e3_10 (rangeAt_cells (hH10.blk (i := 1) rfl))) <| RL.set hH10 (i := 2) rfl (run_stW (c' := #[B true, fv0]) rfl e2_10 rfl (one_two (row_cells (hH10.get (i := 0) rfl)).2) (hH10.blk (i := 2) rfl) rfl) <| fun w86 hH87 => ?_
  simp only [z2] at hH87
  refine RL.nil <| CW.ret <| ?_
  obtain ⟨Zr, hz, hzv, -⟩ := hH87.frz K
  refine outCg (i := Zr.length + 1) Tryd.results13 e2_10 hz (app_get (i := 1) rfl) underlying24 rfl rfl ⟨Zr ++ Z, hz.sub (List.Sublist.append (.refl _) (sQ (sQ (.refl _)))), ⟨true, fv0, fs⟩, rfl, ?_, ?_, ?_⟩
  ·rw [Shp.sh, hm, prod_all ‹_›]
  ·exact hzv.mono (Le.zz fun y hy => List.mem_append_left _ hy)
  ·exact (hF.mono (Le.zz fun y hy => List.mem_append_right _ hy)).each
theorem c_code_Right (v : Value) (l : List InsR) (w : World) (hs : Sl w v 10 l.length (l.flatMap insL)) : Calls Tryd.prog 29 #[v] w (Pure (B (rightC l)) w) := by
 have hm := hs.small
 unfold maxLen at hm
 refine enter Tryd.func29 rfl Tryd.ntmps29 rfl <| have hH := Hp.start w; SR <| va (v := B false) rfl <| RL.nil <| SR <| va (v := I 0) rfl <| RL.nil <| CW.seq <| SR <| ?_
 refine V (run_move (by conv => lhs; whnf)) ?_
 refine V (run_lenSl (hs.hp hH) rfl underlying39 rfl) <| vm (v := I 0) rfl <| RL.nil <| CW.block <| CW.loop (G := Int × Int) (fun ⟨k, d⟩ s' w' => (Fr (2 :: 3 :: (5 :: (rg 8 29 []))) _ s') ∧ (Hp w w' _) ∧ (s' 3 = I d) ∧ (s' 8 = I k) ∧ (0 ≤ k) ∧ (k ≤ l.length) ∧ (deepTo l k = some d)) (fun ⟨k, d⟩ => (l.length - k).toNat) ((0, 0)) ⟨Fr.refl _ _, hH, rfl, rfl, (by omega), (by omega), deep_zero l⟩ <| ?_
 rintro ⟨k, d⟩ sg1 w1 ⟨fr1, hH1, e3_1, e8_1, h0, hk, hd⟩
 have e6_1 := (fr1 6 rfl).trans (by conv => lhs; whnf)
 have e7_1 := fr1.ii 7 rfl rfl
 have hdb := deep_bd h0 hk hd
 refine SR <| V (run_lss e8_1 e7_1) <| RL.nil <| CW.seq <| CW.condP rfl (fun h3 => ?_) (fun h3 => ?_)
 ·refine CW.skip <| CW.seq <| CW.block <| SR <| V (run_indexAddrS (hs.hp hH1) underlying39 sizeOf79 e6_1 e8_1 (by omega)) <| V (run_ldE (dv := ins0) insL_len (hs.hp hH1) underlying79 rfl rfl rfl (by omega)) <| RL.new rfl hH1 (f := fun b => (.pointer (some ⟨b, 0, none⟩))) (run_alloc zero_ins) <| fun b6 w4 hH5 => RL.set hH5 (i := 0) rfl (run_stW (c' := (insL _).toArray) rfl rfl rfl (insL_one _) (hH5.blk (i := 0) rfl) rfl) <| fun w7 hH8 => ?_
  simp only [z2] at hH8
  refine RL.nil <| SR <| V (fA underlying79 0 rfl sizeOf3 rfl) <| V (run_ld underlying3 rfl rfl (hH8.cell (i := 0) rfl (v := I _) rfl)) <| RL.nil <| CW.block <| CW.seq <| SR <| V (run_eql rfl rfl) <| aB rfl <| RL.nil <| CW.condP rfl (fun h10 => ?_) (fun h10 => ?_)
  ·refine CW.skip <| CW.condT (bT h10) <| CW.region <| vm e3_1 <| V (run_add rfl rfl (by omega)) <| aI rfl <| RL.nil <| CW.region <| V (run_add e8_1 rfl (by omega)) <| mI rfl <| RL.nil <| ?_
   refine ⟨(k + 1, d + 1), ?_, fr1.u4.u4.u4.u1, (hH8.sub (sQ sR)), (congrArg I (by rfl)), (congrArg I (by rfl)), ?_, ?_, ?_⟩
   ·((try dsimp only); omega)
   ·omega
   ·omega
   ·rw [deep_next h0 ‹k < _›, hd]; exact st_push (.inl ‹_›)
  ·refine CW.region <| V (run_eql rfl rfl) <| aB rfl <| RL.nil <| CW.condP rfl (fun h12 => ?_) (fun h12 => ?_)
   ·refine CW.region <| vm e3_1 <| V (run_add rfl rfl (by omega)) <| aI rfl <| RL.nil <| CW.region <| V (run_add e8_1 rfl (by omega)) <| mI rfl <| RL.nil <| ?_
    refine ⟨(k + 1, d + 1), ?_, fr1.u4.u4.u4.u1.u1.u1, (hH8.sub (sQ sR)), (congrArg I (by rfl)), (congrArg I (by rfl)), ?_, ?_, ?_⟩
    ·((try dsimp only); omega)
    ·omega
    ·omega
    ·rw [deep_next h0 ‹k < _›, hd]; exact st_push (.inr ‹_›)
   ·refine CW.seq <| SR <| V (run_eql rfl rfl) <| aB rfl <| RL.nil <| CW.condP rfl (fun h14 => ?_) (fun h14 => ?_)
    ·refine CW.skip <| CW.condT (bT h14) <| CW.seq <| SR <| V (fA underlying79 1 rfl sizeOf3 rfl) <| V (run_ld underlying3 rfl rfl (hH8.cell (i := 0) rfl (v := I _) rfl)) <| V (run_lss rfl rfl) <| mB rfl <| RL.splitP (dj := 25) rfl (fun h16 => ?_) (fun h16 => ?_)
     ·refine gF rfl (bT h16) <| gF rfl (bT h16) <| gF rfl (bT h16) <| gF rfl (bT h16) <| V (run_pickT (bT h16) (v := B true) rfl) <| RL.nil <| CW.condT rfl <| SR <| va (v := B false) rfl <| RL.nil <| CW.ret <| outP1 Tryd.results29 (congrArg B ?_) hH8.below
      exact (rc_no h0 ‹k < _› hd (st_bad (by omega) (by omega))).symm
     ·refine gT rfl (bF h16) <| V (fA underlying79 1 rfl sizeOf3 rfl) <| gT rfl (bF h16) <| V (run_ld underlying3 rfl rfl (hH8.cell (i := 0) rfl (v := I _) rfl)) <| gT rfl (bF h16) <| vm e3_1 <| gT rfl (bF h16) <| V (run_gtr rfl rfl) <| V (run_pickF (bF h16) (v := B _) rfl) <| RL.nil <| CW.condP rfl (fun h18 => ?_) (fun h18 => ?_)
      ·refine SR <| va (v := B false) rfl <| RL.nil <| CW.ret <| outP1 Tryd.results29 (congrArg B ?_) hH8.below
       exact (rc_no h0 ‹k < _› hd (st_bad (by omega) (by omega))).symm
      ·refine CW.skip <| CW.region <| vm e3_1 <| V (fA underlying79 1 rfl sizeOf3 rfl) <| V (run_ld underlying3 rfl rfl (hH8.cell (i := 0) rfl (v := I _) rfl)) <| V (run_sub rfl rfl (by omega)) <| V (run_sub rfl rfl (by omega)) <| aI rfl <| RL.nil <| CW.region <| V (run_add e8_1 rfl (by omega)) <| mI rfl <| RL.nil <| ?_
       refine ⟨(k + 1, d - (l.getD k.toNat ins0).n + 1), ?_, fr1.u4.u4.u4.u4.u4.u4.u4.u1, (hH8.sub (sQ sR)), (congrArg I (by omega)), (congrArg I (by rfl)), ?_, ?_, ?_⟩
       ·((try dsimp only); omega)
       ·omega
       ·omega
       ·rw [deep_next h0 ‹k < _›, hd]; exact st_pop (by omega) (by omega) (by omega)
    ·refine CW.region <| V (run_eql rfl rfl) <| aB rfl <| RL.nil <| CW.condP rfl (fun h20 => ?_) (fun h20 => ?_)
     ·refine CW.seq <| SR <| V (fA underlying79 1 rfl sizeOf3 rfl) <| V (run_ld underlying3 rfl rfl (hH8.cell (i := 0) rfl (v := I _) rfl)) <| V (run_lss rfl rfl) <| mB rfl <| RL.splitP (dj := 25) rfl (fun h22 => ?_) (fun h22 => ?_)
      ·refine gF rfl (bT h22) <| gF rfl (bT h22) <| gF rfl (bT h22) <| gF rfl (bT h22) <| V (run_pickT (bT h22) (v := B true) rfl) <| RL.nil <| CW.condT rfl <| SR <| va (v := B false) rfl <| RL.nil <| CW.ret <| outP1 Tryd.results29 (congrArg B ?_) hH8.below
       exact (rc_no h0 ‹k < _› hd (st_bad (by omega) (by omega))).symm
      ·refine gT rfl (bF h22) <| V (fA underlying79 1 rfl sizeOf3 rfl) <| gT rfl (bF h22) <| V (run_ld underlying3 rfl rfl (hH8.cell (i := 0) rfl (v := I _) rfl)) <| gT rfl (bF h22) <| vm e3_1 <| gT rfl (bF h22) <| V (run_gtr rfl rfl) <| V (run_pickF (bF h22) (v := B _) rfl) <| RL.nil <| CW.condP rfl (fun h24 => ?_) (fun h24 => ?_)
       ·refine SR <| va (v := B false) rfl <| RL.nil <| CW.ret <| outP1 Tryd.results29 (congrArg B ?_) hH8.below
        exact (rc_no h0 ‹k < _› hd (st_bad (by omega) (by omega))).symm
       ·refine CW.skip <| CW.region <| vm e3_1 <| V (fA underlying79 1 rfl sizeOf3 rfl) <| V (run_ld underlying3 rfl rfl (hH8.cell (i := 0) rfl (v := I _) rfl)) <| V (run_sub rfl rfl (by omega)) <| V (run_sub rfl rfl (by omega)) <| aI rfl <| RL.nil <| CW.region <| V (run_add e8_1 rfl (by omega)) <| mI rfl <| RL.nil <| ?_
        refine ⟨(k + 1, d - (l.getD k.toNat ins0).n + 1), ?_, fr1.u4.u4.u4.u4.u4.u4.u4.u1.u1.u1, (hH8.sub (sQ sR)), (congrArg I (by omega)), (congrArg I (by rfl)), ?_, ?_, ?_⟩
        ·((try dsimp only); omega)
        ·omega
        ·omega
        ·rw [deep_next h0 ‹k < _›, hd]; exact st_pop (by omega) (by omega) (by omega)
     ·refine SR <| va (v := B false) rfl <| RL.nil <| CW.ret <| outP1 Tryd.results29 (congrArg B ?_) hH8.below
      exact (rc_no h0 ‹k < _› hd (st_none (by omega) (by omega))).symm
 ·refine CW.exit (id := 0) rfl <| SR <| vm e3_1 <| V (run_eql rfl rfl) <| aB rfl <| RL.nil <| CW.ret <| outP1 Tryd.results29 (congrArg B ?_) hH1.below
  exact (rc_end hk ‹¬ k < _› hd).symm
theorem c_code_fold (s : Shp) (op : Int) (v : Value) (l : List El) (hne : 1 ≤ l.length) (w : World) (hs : Sl w v 8 l.length (l.flatMap elL)) (hsh : ShpV (Kw w) s) (hT : Tab w) : Calls Tryd.prog 30 #[.agg (shpC s), I op, v] w (Pure (.agg (elC (foldE (opE s.sh op) l))) w) := by
 have hm := hs.small
 unfold maxLen at hm
 refine enter Tryd.func30 rfl Tryd.ntmps30 rfl <| have hH := Hp.start w; SR <| RL.new rfl hH (f := fun b => (.pointer (some ⟨b, 0, none⟩))) (run_box (v := .agg _) rfl) <| fun b3 w1 hH2 => RL.new rfl hH2 (f := fun b => (.pointer (some ⟨b, 0, none⟩))) (run_alloc zero_el) <| fun b6 w4 hH5 => RL.nil <| SR <| ?_
 refine V (run_move (by conv => lhs; whnf)) ?_
 refine V (run_move (by conv => lhs; whnf)) ?_
 refine V (run_lenSl (hs.hp hH5) rfl underlying40 rfl) <| V (run_sub rfl rfl (by omega)) <| V (run_indexAddrS (hs.hp hH5) underlying40 sizeOf43 rfl rfl (by omega)) <| V (run_ldElS (hs.hp hH5) underlying43 rfl rfl rfl (by omega)) <| RL.new rfl hH5 (f := fun b => (.pointer (some ⟨b, 0, none⟩))) (run_alloc zero_el) <| fun b9 w7 hH8 => RL.set hH8 (i := 0) rfl (run_stEl rfl rfl rfl (hH8.blk (i := 0) rfl)) <| fun w10 hH11 => ?_
 simp only [z2] at hH11
 refine RL.nil <| CW.seq <| SR <| ?_
 refine V (run_move (by conv => lhs; whnf)) ?_
 refine V (run_lenSl (hs.hp hH11) rfl underlying40 rfl) <| V (run_sub rfl rfl (by omega)) <| aI rfl <| RL.nil <| CW.block <| CW.loop (G := Int × El) (fun ⟨k, e1⟩ s' w' => (Fr (8 :: (rg 18 19 [])) _ s') ∧ (Hp w w' (.blk b9 (.cells (elC e1) 43 (0, 0)) :: _)) ∧ (s' 8 = I k) ∧ (-1 ≤ k) ∧ (k ≤ (l.length : Int) - 2) ∧ (e1 = foldE (opE s.sh op) (l.drop (k + 1).toNat))) (fun ⟨k, e1⟩ => (k + 1).toNat) (((l.length : Int) - 2, (l.getD ((l.length : Int) - 1).toNat el0))) ⟨Fr.refl _ _, hH11, rfl, (by omega), (by omega), (by rw [show ((l.length : Int) - 2 + 1).toNat = l.length - 1 by omega, foldE_last (by intro h; rw [h] at hne; simp at hne)]; congr 1; omega)⟩ <| ?_
 rintro ⟨k, e1⟩ sg12 w12 ⟨fr12, hH12, e8_12, h0, hk, he⟩
 have e1_12 := fr12.ii 1 rfl rfl
 have e2_12 := (fr12 2 rfl).trans (by conv => lhs; whnf)
 have e3_12 := fr12.pp 3 rfl rfl
 have e6_12 := fr12.pp 6 rfl rfl
 have e7_12 := fr12.pp 7 rfl rfl
 refine CW.seq <| SR <| vm e8_12 <| V (run_geq rfl rfl) <| RL.nil <| CW.condP rfl (fun h14 => ?_) (fun h14 => ?_)
 ·refine CW.skip <| CW.seq <| CW.block <| CW.seq <| SR <| vm e1_12 <| V (run_eql rfl rfl) <| RL.nil <| CW.condP rfl (fun h16 => ?_) (fun h16 => ?_)
  ·refine CW.seq <| CW.regionS (by kernel_rfl) hH12 (sQ sR) <| fun w17 hH18 => have zh18 := hH18.sub (sQ sR); AT 0 rfl zh18 (fun w hS => run_ldA (cs := [B _, _]) underlying24 rfl rfl e3_12 (rangeAt_cells (hS.blk (i := 1) rfl))) <| AQ 1 rfl zh18 (run_move e2_12) <| AQ 2 rfl zh18 (run_move e8_12) <| AT 3 rfl zh18 (fun w hS => run_indexAddrS (hs.hp hS) underlying40 sizeOf43 rfl rfl (by omega)) <| AT 4 rfl zh18 (fun w hS => run_ldElS (hs.hp hS) underlying43 rfl rfl rfl (by omega)) <| A1 5 <| AO.read rfl gnone rfl hH18 (sQ sR) (run_ldEl underlying43 rfl rfl e7_12 (hH18.blk (i := 0) rfl)) <| A1 6 <| AO.callP rfl gnone rfl hH18 (sQ sR) (c_shape_Join _ _ _  _ (hsh.mono hH18.kw) (hT.hp hH18)) (run_call3 call36 rfl rfl rfl) <| fun w21 hH22 => A1 7 <| AO.set rfl gnone hH22 (j := 0) rfl (sQ sR) (run_stEl rfl e7_12 rfl (hH22.blk (i := 0) rfl)) <| fun w25 hH26 => ?_
   simp only [z2] at hH26
   refine AD <| CW.exit (id := 1) rfl <| CW.region <| vm e8_12 <| V (run_sub rfl rfl (by omega)) <| aI rfl <| RL.nil <| ?_
   refine ⟨(k - 1, _), ?_, fr12.u4.u4.u4.u1.u1, hH26, (congrArg I (by rfl)), ?_, ?_, ?_⟩
   ·((try dsimp only); omega)
   ·omega
   ·omega
   ·(rw [show (k - 1 + 1).toNat = k.toNat by omega, foldE_k (by omega) (by omega), ← he]; exact opE_3 ‹op = 3›)
  ·refine CW.skip <| CW.regionS (by kernel_rfl) hH12 (sQ sR) <| fun w27 hH28 => have zh28 := hH28.sub (sQ sR); AQ 0 rfl zh28 (run_move e2_12) <| AQ 1 rfl zh28 (run_move e8_12) <| AT 2 rfl zh28 (fun w hS => run_indexAddrS (hs.hp hS) underlying40 sizeOf43 rfl rfl (by omega)) <| AT 3 rfl zh28 (fun w hS => run_ldElS (hs.hp hS) underlying43 rfl rfl rfl (by omega)) <| A1 4 <| AO.read rfl gnone rfl hH28 (sQ sR) (run_ldEl underlying43 rfl rfl e7_12 (hH28.blk (i := 0) rfl)) <| A1 5 <| AO.callP rfl gnone rfl hH28 (sQ sR) (c_shape_Meet _ _  _) (run_call2 call37 rfl rfl) <| fun w31 hH32 => A1 6 <| AO.set rfl gnone hH32 (j := 0) rfl (sQ sR) (run_stEl rfl e7_12 rfl (hH32.blk (i := 0) rfl)) <| fun w35 hH36 => ?_
   simp only [z2] at hH36
   refine AD <| CW.region <| vm e8_12 <| V (run_sub rfl rfl (by omega)) <| aI rfl <| RL.nil <| ?_
   refine ⟨(k - 1, _), ?_, fr12.u4.u4.u4.u1, hH36, (congrArg I (by rfl)), ?_, ?_, ?_⟩
   ·((try dsimp only); omega)
   ·omega
   ·omega
   ·(rw [show (k - 1 + 1).toNat = k.toNat by omega, foldE_k (by omega) (by omega), ← he]; exact opE_4 ‹¬ op = 3›)
 ·refine CW.exit (id := 0) rfl <| SR <| V (run_ldEl underlying43 rfl rfl e7_12 (hH12.blk (i := 0) rfl)) <| RL.set hH12 (i := 1) rfl (run_stEl rfl e6_12 rfl (hH12.blk (i := 1) rfl)) <| fun w37 hH38 => ?_
  simp only [z2] at hH38
  refine RL.nil <| CW.ret <| outCg Tryd.results30 e6_12 hH38 (i := 1) rfl underlying43 rfl (by rw [elC_size]; rfl) ⟨?_, hH38.below⟩
  (exact congrArg Value.agg (elC_congr (by rw [he, show (k + 1).toNat = 0 by omega]; exact fun _ _ => rfl)))
set_option maxHeartbeats 1000000 in
theorem c_code_Eval (s : Shp) (v : Value) (l : List InsR) (u : Value) (vs : List El) (hl : l.length ≤ 1000) (w : World) (hs : Sl w v 10 l.length (l.flatMap insL)) (ht : Sl w u 8 vs.length (vs.flatMap elL)) (hsh : ShpV (Kw w) s) (hT : Tab w) : Calls Tryd.prog 15 #[.agg (shpC s), v, u] w (Pure (.tuple #[.agg (elC (evalF s.sh l vs).1), B (evalF s.sh l vs).2]) w) := by
 have hm := hs.small
 unfold maxLen at hm
 have hm2 := ht.small
 unfold maxLen at hm2
 refine enter Tryd.func15 rfl Tryd.ntmps15 rfl <| have hH := Hp.start w; SR <| RL.new rfl hH (f := fun b => (.pointer (some ⟨b, 0, none⟩))) (run_box (v := .agg _) rfl) <| fun b3 w1 hH2 => RL.new rfl hH2 (f := fun b => (.pointer (some ⟨b, 0, none⟩))) (run_alloc zero_el) <| fun b6 w4 hH5 => va (v := B false) rfl <| RL.nil <| CW.seq <| SR <| ?_
 refine V (run_move (by conv => lhs; whnf)) ?_
 refine RL.callP rfl hH5 (c_code_Right _ _  _ (hs.hp hH5)) (run_call1 call29 rfl) <| fun w7 hH8 => V (run_not rfl) <| RL.nil <| CW.cond rfl (fun h11 => ?_) (fun h11 => ?_)
 ·refine SR <| V (run_bld (vs := []) rfl (built_el0)) <| RL.set hH8 (i := 0) rfl (run_stEl rfl rfl rfl (hH8.blk (i := 0) rfl)) <| fun w12 hH13 => ?_
  simp only [z2] at hH13
  refine va (v := B false) rfl <| RL.nil <| CW.ret <| outCT Tryd.results15 rfl rfl hH13 (i := 0) rfl underlying43 rfl (by rw [elC_size]; rfl) ⟨?_, hH13.below⟩
  (rw [ev_no (nt ‹(!rightC l) = true›)]; rfl)
 ·refine CW.skip <| SR <| va (v := .slice none 0 0) rfl <| have hH14 := hH8.nilRow 43 8; RL.nil <| CW.seq <| SR <| ?_
  refine V (run_move (by conv => lhs; whnf)) ?_
  refine V (run_lenSl (hs.hp hH14) rfl underlying39 rfl) <| vm (v := I 0) rfl <| RL.nil <| CW.block <| have hr : rightC l = true := nf ‹(!rightC l) = false›; CW.loop (G := Int × (List El) × Value) (fun ⟨k, st, v8⟩ s' w' => (Fr (7 :: 8 :: (10 :: 11 :: (rg 18 53 []))) _ s') ∧ (Hp w w' (.row v8 43 8 (st.length) (st.flatMap elL) :: _)) ∧ (s' 8 = v8) ∧ (s' 18 = I k) ∧ (0 ≤ k) ∧ (k ≤ l.length) ∧ (stackTo s.sh vs l k = some st) ∧ (deepTo l k = some (st.length : Int))) (fun ⟨k, st, v8⟩ => (l.length - k).toNat) ((0, [], (.slice none 0 0 : Value))) ⟨Fr.refl _ _, hH14, rfl, rfl, (by omega), (by omega), rfl, deep_zero l⟩ <| ?_
  rintro ⟨k, st, v8⟩ sg15 w15 ⟨fr15, hH15, e8_15, e18_15, h0, hk, hst, hdp⟩
  have e2_15 := (fr15 2 rfl).trans (by conv => lhs; whnf)
  have e3_15 := fr15.pp 3 rfl rfl
  have e6_15 := fr15.pp 6 rfl rfl
  have e16_15 := (fr15 16 rfl).trans (by conv => lhs; whnf)
  have e17_15 := fr15.ii 17 rfl rfl
  have hdk := deep_bd h0 hk hdp
  refine SR <| V (run_lss e18_15 e17_15) <| RL.nil <| CW.seq <| CW.condP rfl (fun h17 => ?_) (fun h17 => ?_)
  ·refine CW.skip <| CW.seq <| CW.block <| SR <| V (run_indexAddrS (hs.hp hH15) underlying39 sizeOf79 e16_15 e18_15 (by omega)) <| V (run_ldE (dv := ins0) insL_len (hs.hp hH15) underlying79 rfl rfl rfl (by omega)) <| RL.new rfl hH15 (f := fun b => (.pointer (some ⟨b, 0, none⟩))) (run_alloc zero_ins) <| fun b20 w18 hH19 => RL.set hH19 (i := 0) rfl (run_stW (c' := (insL _).toArray) rfl rfl rfl (insL_one _) (hH19.blk (i := 0) rfl) rfl) <| fun w21 hH22 => ?_
   simp only [z2] at hH22
   refine RL.nil <| SR <| V (fA underlying79 0 rfl sizeOf3 rfl) <| V (run_ld underlying3 rfl rfl (hH22.cell (i := 0) rfl (v := I _) rfl)) <| RL.nil <| CW.block <| SR <| V (run_eql rfl rfl) <| aB rfl <| RL.nil <| CW.condP rfl (fun h24 => ?_) (fun h24 => ?_)
   ·refine CW.seq <| SR <| V (fA underlying79 1 rfl sizeOf3 rfl) <| V (run_ld underlying3 rfl rfl (hH22.cell (i := 0) rfl (v := I _) rfl)) <| V (run_lss rfl rfl) <| mB rfl <| RL.splitP (dj := 47) rfl (fun h26 => ?_) (fun h26 => ?_)
    ·refine gF rfl (bT h26) <| gF rfl (bT h26) <| gF rfl (bT h26) <| gF rfl (bT h26) <| gF rfl (bT h26) <| V (run_pickT (bT h26) (v := B true) rfl) <| RL.nil <| CW.condT rfl <| SR <| V (run_bld (vs := []) rfl (built_el0)) <| RL.set hH22 (i := 2) rfl (run_stEl rfl e6_15 rfl (hH22.blk (i := 2) rfl)) <| fun w27 hH28 => ?_
     simp only [z2] at hH28
     refine va (v := B false) rfl <| RL.nil <| CW.ret <| outCT Tryd.results15 e6_15 rfl hH28 (i := 2) rfl underlying43 rfl (by rw [elC_size]; rfl) ⟨?_, hH28.below⟩
     (rw [ev_dead h0 ‹k < _› hst ‹(List.getD l k.toNat ins0).op = 1› (by omega)]; rfl)
    ·refine gT rfl (bF h26) <| V (fA underlying79 1 rfl sizeOf3 rfl) <| gT rfl (bF h26) <| V (run_ld underlying3 rfl rfl (hH22.cell (i := 0) rfl (v := I _) rfl)) <| gT rfl (bF h26) <| vm e2_15 <| gT rfl (bF h26) <| V (run_lenSl (ht.hp hH22) rfl underlying40 rfl) <| gT rfl (bF h26) <| V (run_geq rfl rfl) <| V (run_pickF (bF h26) (v := B _) rfl) <| RL.nil <| CW.condP rfl (fun h30 => ?_) (fun h30 => ?_)
     ·refine SR <| V (run_bld (vs := []) rfl (built_el0)) <| RL.set hH22 (i := 2) rfl (run_stEl rfl e6_15 rfl (hH22.blk (i := 2) rfl)) <| fun w31 hH32 => ?_
      simp only [z2] at hH32
      refine va (v := B false) rfl <| RL.nil <| CW.ret <| outCT Tryd.results15 e6_15 rfl hH32 (i := 2) rfl underlying43 rfl (by rw [elC_size]; rfl) ⟨?_, hH32.below⟩
      (rw [ev_dead h0 ‹k < _› hst ‹(List.getD l k.toNat ins0).op = 1› (by omega)]; rfl)
     ·refine CW.skip <| CW.region <| vm e8_15 <| vm e2_15 <| V (fA underlying79 1 rfl sizeOf3 rfl) <| V (run_ld underlying3 rfl rfl (hH22.cell (i := 0) rfl (v := I _) rfl)) <| V (run_indexAddrS (ht.hp hH22) underlying40 sizeOf43 rfl rfl (by omega)) <| V (run_ldElS (ht.hp hH22) underlying43 rfl rfl rfl (by omega)) <| RL.new rfl hH22 (f := fun b => (.slice (some ⟨b, 0, none⟩) 1 1)) (run_mkEl1 underlying40 rfl rfl rfl rfl) <| fun b35 w33 hH34 => ?_
      (try simp only [clX] at hH34)
      refine RL.app rfl hH34 (i := 2) rfl (Hp.slFlat elL_len hH34 (i := 0) (l := [_]) rfl (by simp [maxLen])) rfl rfl underlying40 rfl rfl (size := 8) (bytes := 64) rfl rfl rfl (by decide) (els_one _) (by show (st.length + 1) * _ ≤ _; omega) (by show st.length + 1 ≤ _; simp only [maxLen]; omega) <| fun v36 w37 hH38 => ?_
      simp only [z2] at hH38
      refine V (run_assign (by conv => lhs; whnf)) ?_
      refine RL.nil <| CW.region <| V (run_add e18_15 rfl (by omega)) <| mI rfl <| RL.nil <| ?_
      refine ⟨(k + 1, st ++ [vs.getD (l.getD k.toNat ins0).n.toNat el0], v36), ?_, fr15.u4.u4.u4.u4.u4.u4.u4.u1, (Hp.conv (hH38.sub (sQ (sQ sR))) (by simp; done)), rfl, (congrArg I (by rfl)), ?_, ?_, ?_, ?_⟩
      ·((try dsimp only); omega)
      ·omega
      ·omega
      ·exact ev_1 h0 ‹k < _› hst ‹(List.getD l k.toNat ins0).op = 1› ⟨by omega, by omega⟩
      ·(rw [deep_next h0 ‹k < _›, hdp, st_push (.inl ‹(List.getD l k.toNat ins0).op = 1›)]; simp; done)
   ·refine SR <| V (run_eql rfl rfl) <| aB rfl <| RL.nil <| CW.condP rfl (fun h40 => ?_) (fun h40 => ?_)
    ·refine CW.region <| vm e8_15 <| V (fA underlying79 2 rfl sizeOf43 rfl) <| V (run_ldElR underlying43 rfl rfl rfl (hH22.blk (i := 0) rfl) (ins_elB _)) <| RL.new rfl hH22 (f := fun b => (.slice (some ⟨b, 0, none⟩) 1 1)) (run_mkEl1 underlying40 rfl rfl rfl rfl) <| fun b43 w41 hH42 => ?_
     (try simp only [clX] at hH42)
     refine RL.app rfl hH42 (i := 2) rfl (Hp.slFlat elL_len hH42 (i := 0) (l := [_]) rfl (by simp [maxLen])) rfl rfl underlying40 rfl rfl (size := 8) (bytes := 64) rfl rfl rfl (by decide) (els_one _) (by show (st.length + 1) * _ ≤ _; omega) (by show st.length + 1 ≤ _; simp only [maxLen]; omega) <| fun v44 w45 hH46 => ?_
     simp only [z2] at hH46
     refine V (run_assign (by conv => lhs; whnf)) ?_
     refine RL.nil <| CW.region <| V (run_add e18_15 rfl (by omega)) <| mI rfl <| RL.nil <| ?_
     refine ⟨(k + 1, st ++ [(l.getD k.toNat ins0).c], v44), ?_, fr15.u4.u4.u4.u4.u1.u1, (Hp.conv (hH46.sub (sQ (sQ sR))) (by simp; done)), rfl, (congrArg I (by rfl)), ?_, ?_, ?_, ?_⟩
     ·((try dsimp only); omega)
     ·omega
     ·omega
     ·exact ev_2 h0 ‹k < _› hst ‹(List.getD l k.toNat ins0).op = 2›
     ·(rw [deep_next h0 ‹k < _›, hdp, st_push (.inr ‹(List.getD l k.toNat ins0).op = 2›)]; simp; done)
    ·refine SR <| vm e8_15 <| V (run_lenSl (hH22.sl (i := 1) rfl) rfl underlying40 rfl) <| V (fA underlying79 1 rfl sizeOf3 rfl) <| V (run_ld underlying3 rfl rfl (hH22.cell (i := 0) rfl (v := I _) rfl)) <| V (run_sub rfl rfl (by have hq := (deep_pop hr h0 ‹k < _› hdp ‹¬ (List.getD l k.toNat ins0).op = 1› ‹¬ (List.getD l k.toNat ins0).op = 2›); omega)) <| aI rfl <| RL.nil <| have hpo := (deep_pop hr h0 ‹k < _› hdp ‹¬ (List.getD l k.toNat ins0).op = 1› ‹¬ (List.getD l k.toNat ins0).op = 2›); CW.regionS (by kernel_rfl) hH22 (sP (sQ sR)) <| fun w47 hH48 => have zh48 := hH48.sub (sP (sQ sR)); AQ 0 rfl zh48 (run_move e8_15) <| AQ 1 rfl zh48 (mV (I _) rfl) <| AQ 2 rfl zh48 (mV (I _) rfl) <| AT 4 rfl zh48 (fun w hS => run_ldA (cs := [B _, _]) underlying24 rfl rfl e3_15 (rangeAt_cells (hS.blk (i := 2) rfl))) <| AQ 5 rfl zh48 (fA underlying79 0 rfl sizeOf3 rfl) <| AT 6 rfl zh48 (fun w hS => run_ld underlying3 rfl rfl (hS.cell (i := 0) rfl (v := I _) rfl)) <| AQ 7 rfl zh48 (run_move e8_15) <| AQ 8 rfl zh48 (mV (I _) rfl) <| AN.two 3 9 (by kernel_rfl) ?_ ?_
     ·refine AO.read rfl gnone rfl hH48 (sP (sQ sR)) (run_cut3 (hH48.sl (i := 1) rfl) underlying40 sizeOf43 rfl rfl rfl (by omega)) <| A1 9 <| AO.read rfl gnone rfl hH48 (sP (sQ sR)) (run_from (hH48.sl (i := 1) rfl) underlying40 sizeOf43 rfl rfl (by omega)) <| A1 10 <| AO.callP rfl gnone rfl hH48 (sP (sQ sR)) (c_code_fold s (l.getD k.toNat ins0).op _ (st.drop ((st.length : Int) - (l.getD k.toNat ins0).n).toNat) (by rw [List.length_drop]; omega) _ (Sl.frE elL_len (hH48.sl (i := 1) rfl) _ (by omega)) (hsh.mono hH48.kw) (hT.hp hH48)) (run_call3 call30 rfl rfl rfl) <| fun w53 hH54 => A1 11 <| AO.new rfl gnone rfl hH54 (sP (sQ sR)) (f := fun b => .slice (some ⟨b, 0, none⟩) 1 1) (run_mkEl1 underlying40 rfl rfl rfl rfl) <| fun b57 w55 hH56 => ?_
      (try simp only [clX] at hH56)
      refine A1 12 <| AO.appG rfl gnone rfl hH56 (j := 2) rfl (q := (((st.length : Int) - (l.getD k.toNat ins0).n)).toNat) (by omega) (fun _ => (sQ (sP (sQ sR)))) (Hp.slFlat elL_len hH56 (i := 0) (l := [_]) rfl (by simp [maxLen])) rfl rfl underlying40 rfl rfl (size := 8) (bytes := 64) rfl rfl rfl (by simp) (by show (((st.length : Int) - (l.getD k.toNat ins0).n).toNat + 1) * _ ≤ _; omega) (by show ((st.length : Int) - (l.getD k.toNat ins0).n).toNat + 1 ≤ _; simp only [maxLen]; omega) <| fun v60 w61 hH62 => ?_
      simp only [z2] at hH62
      refine AQ 13 rfl (hH62.sub (sQ (sP (sQ sR)))) (run_assign (by conv => lhs; whnf)) ?_
      refine AD <| CW.region <| V (run_add e18_15 rfl (by omega)) <| mI rfl <| RL.nil <| ?_
      refine ⟨(k + 1, st.take ((st.length : Int) - (l.getD k.toNat ins0).n).toNat ++ [foldE (opE s.sh (l.getD k.toNat ins0).op) (st.drop ((st.length : Int) - (l.getD k.toNat ins0).n).toNat)], v60), ?_, fr15.u4.u4.u4.u4.u4.u4.u4.u4, (Hp.conv (hH62.sub (sQ (sQ sR))) (by rw [flat_take elL_len, List.length_append, List.length_take, Nat.min_eq_left (by omega), List.flatMap_append]; done)), rfl, (congrArg I (by rfl)), ?_, ?_, ?_, ?_⟩
      ·((try dsimp only); omega)
      ·omega
      ·omega
      ·exact ev_3i h0 ‹k < _› hst ‹¬ (List.getD l k.toNat ins0).op = 1› ‹¬ (List.getD l k.toNat ins0).op = 2› rfl (by have := (deep_pop hr h0 ‹k < _› hdp ‹¬ (List.getD l k.toNat ins0).op = 1› ‹¬ (List.getD l k.toNat ins0).op = 2›); omega)
      ·(have hq := (deep_pop hr h0 ‹k < _› hdp ‹¬ (List.getD l k.toNat ins0).op = 1› ‹¬ (List.getD l k.toNat ins0).op = 2›); rw [hq.2.2, List.length_append, List.length_take, List.length_singleton]; congr 1 <;> omega)
     ·refine AO.read rfl gnone rfl hH48 (sP (sQ sR)) (run_from (hH48.sl (i := 1) rfl) underlying40 sizeOf43 rfl rfl (by omega)) <| AN.two 3 10 (by kernel_rfl) ?_ ?_
      ·refine AO.read rfl gnone rfl hH48 (sP (sQ sR)) (run_cut3 (hH48.sl (i := 1) rfl) underlying40 sizeOf43 rfl rfl rfl (by omega)) <| A1 10 <| AO.callP rfl gnone rfl hH48 (sP (sQ sR)) (c_code_fold s (l.getD k.toNat ins0).op _ (st.drop ((st.length : Int) - (l.getD k.toNat ins0).n).toNat) (by rw [List.length_drop]; omega) _ (Sl.frE elL_len (hH48.sl (i := 1) rfl) _ (by omega)) (hsh.mono hH48.kw) (hT.hp hH48)) (run_call3 call30 rfl rfl rfl) <| fun w67 hH68 => A1 11 <| AO.new rfl gnone rfl hH68 (sP (sQ sR)) (f := fun b => .slice (some ⟨b, 0, none⟩) 1 1) (run_mkEl1 underlying40 rfl rfl rfl rfl) <| fun b71 w69 hH70 => ?_
       (try simp only [clX] at hH70)
       refine A1 12 <| AO.appG rfl gnone rfl hH70 (j := 2) rfl (q := (((st.length : Int) - (l.getD k.toNat ins0).n)).toNat) (by omega) (fun _ => (sQ (sP (sQ sR)))) (Hp.slFlat elL_len hH70 (i := 0) (l := [_]) rfl (by simp [maxLen])) rfl rfl underlying40 rfl rfl (size := 8) (bytes := 64) rfl rfl rfl (by simp) (by show (((st.length : Int) - (l.getD k.toNat ins0).n).toNat + 1) * _ ≤ _; omega) (by show ((st.length : Int) - (l.getD k.toNat ins0).n).toNat + 1 ≤ _; simp only [maxLen]; omega) <| fun v74 w75 hH76 => ?_
       simp only [z2] at hH76
       refine AQ 13 rfl (hH76.sub (sQ (sP (sQ sR)))) (run_assign (by conv => lhs; whnf)) ?_
       refine AD <| CW.region <| V (run_add e18_15 rfl (by omega)) <| mI rfl <| RL.nil <| ?_
       refine ⟨(k + 1, st.take ((st.length : Int) - (l.getD k.toNat ins0).n).toNat ++ [foldE (opE s.sh (l.getD k.toNat ins0).op) (st.drop ((st.length : Int) - (l.getD k.toNat ins0).n).toNat)], v74), ?_, fr15.u4.u4.u4.u4.u4.u4.u4.u4, (Hp.conv (hH76.sub (sQ (sQ sR))) (by rw [flat_take elL_len, List.length_append, List.length_take, Nat.min_eq_left (by omega), List.flatMap_append]; done)), rfl, (congrArg I (by rfl)), ?_, ?_, ?_, ?_⟩
       ·((try dsimp only); omega)
       ·omega
       ·omega
       ·exact ev_3i h0 ‹k < _› hst ‹¬ (List.getD l k.toNat ins0).op = 1› ‹¬ (List.getD l k.toNat ins0).op = 2› rfl (by have := (deep_pop hr h0 ‹k < _› hdp ‹¬ (List.getD l k.toNat ins0).op = 1› ‹¬ (List.getD l k.toNat ins0).op = 2›); omega)
       ·(have hq := (deep_pop hr h0 ‹k < _› hdp ‹¬ (List.getD l k.toNat ins0).op = 1› ‹¬ (List.getD l k.toNat ins0).op = 2›); rw [hq.2.2, List.length_append, List.length_take, List.length_singleton]; congr 1 <;> omega)
      ·refine AO.callP rfl gnone rfl hH48 (sP (sQ sR)) (c_code_fold s (l.getD k.toNat ins0).op _ (st.drop ((st.length : Int) - (l.getD k.toNat ins0).n).toNat) (by rw [List.length_drop]; omega) _ (Sl.frE elL_len (hH48.sl (i := 1) rfl) _ (by omega)) (hsh.mono hH48.kw) (hT.hp hH48)) (run_call3 call30 rfl rfl rfl) <| fun w77 hH78 => AN.two 3 11 (by kernel_rfl) ?_ ?_
       ·refine AO.read rfl gnone rfl hH78 (sP (sQ sR)) (run_cut3 (hH78.sl (i := 1) rfl) underlying40 sizeOf43 rfl rfl rfl (by omega)) <| A1 11 <| AO.new rfl gnone rfl hH78 (sP (sQ sR)) (f := fun b => .slice (some ⟨b, 0, none⟩) 1 1) (run_mkEl1 underlying40 rfl rfl rfl rfl) <| fun b83 w81 hH82 => ?_
        (try simp only [clX] at hH82)
        refine A1 12 <| AO.appG rfl gnone rfl hH82 (j := 2) rfl (q := (((st.length : Int) - (l.getD k.toNat ins0).n)).toNat) (by omega) (fun _ => (sQ (sP (sQ sR)))) (Hp.slFlat elL_len hH82 (i := 0) (l := [_]) rfl (by simp [maxLen])) rfl rfl underlying40 rfl rfl (size := 8) (bytes := 64) rfl rfl rfl (by simp) (by show (((st.length : Int) - (l.getD k.toNat ins0).n).toNat + 1) * _ ≤ _; omega) (by show ((st.length : Int) - (l.getD k.toNat ins0).n).toNat + 1 ≤ _; simp only [maxLen]; omega) <| fun v86 w87 hH88 => ?_
        simp only [z2] at hH88
        refine AQ 13 rfl (hH88.sub (sQ (sP (sQ sR)))) (run_assign (by conv => lhs; whnf)) ?_
        refine AD <| CW.region <| V (run_add e18_15 rfl (by omega)) <| mI rfl <| RL.nil <| ?_
        refine ⟨(k + 1, st.take ((st.length : Int) - (l.getD k.toNat ins0).n).toNat ++ [foldE (opE s.sh (l.getD k.toNat ins0).op) (st.drop ((st.length : Int) - (l.getD k.toNat ins0).n).toNat)], v86), ?_, fr15.u4.u4.u4.u4.u4.u4.u4.u4, (Hp.conv (hH88.sub (sQ (sQ sR))) (by rw [flat_take elL_len, List.length_append, List.length_take, Nat.min_eq_left (by omega), List.flatMap_append]; done)), rfl, (congrArg I (by rfl)), ?_, ?_, ?_, ?_⟩
        ·((try dsimp only); omega)
        ·omega
        ·omega
        ·exact ev_3i h0 ‹k < _› hst ‹¬ (List.getD l k.toNat ins0).op = 1› ‹¬ (List.getD l k.toNat ins0).op = 2› rfl (by have := (deep_pop hr h0 ‹k < _› hdp ‹¬ (List.getD l k.toNat ins0).op = 1› ‹¬ (List.getD l k.toNat ins0).op = 2›); omega)
        ·(have hq := (deep_pop hr h0 ‹k < _› hdp ‹¬ (List.getD l k.toNat ins0).op = 1› ‹¬ (List.getD l k.toNat ins0).op = 2›); rw [hq.2.2, List.length_append, List.length_take, List.length_singleton]; congr 1 <;> omega)
       ·refine AO.new rfl gnone rfl hH78 (sP (sQ sR)) (f := fun b => .slice (some ⟨b, 0, none⟩) 1 1) (run_mkEl1 underlying40 rfl rfl rfl rfl) <| fun b91 w89 hH90 => ?_
        (try simp only [clX] at hH90)
        refine A1 3 <| AO.read rfl gnone rfl hH90 (sQ (sP (sQ sR))) (run_cut3 (hH90.sl (i := 2) rfl) underlying40 sizeOf43 rfl rfl rfl (by omega)) <| A1 12 <| AO.appG rfl gnone rfl hH90 (j := 2) rfl (q := (((st.length : Int) - (l.getD k.toNat ins0).n)).toNat) (by omega) (fun _ => (sQ (sP (sQ sR)))) (Hp.slFlat elL_len hH90 (i := 0) (l := [_]) rfl (by simp [maxLen])) rfl rfl underlying40 rfl rfl (size := 8) (bytes := 64) rfl rfl rfl (by simp) (by show (((st.length : Int) - (l.getD k.toNat ins0).n).toNat + 1) * _ ≤ _; omega) (by show ((st.length : Int) - (l.getD k.toNat ins0).n).toNat + 1 ≤ _; simp only [maxLen]; omega) <| fun v96 w97 hH98 => ?_
        simp only [z2] at hH98
        refine AQ 13 rfl (hH98.sub (sQ (sP (sQ sR)))) (run_assign (by conv => lhs; whnf)) ?_
        refine AD <| CW.region <| V (run_add e18_15 rfl (by omega)) <| mI rfl <| RL.nil <| ?_
        refine ⟨(k + 1, st.take ((st.length : Int) - (l.getD k.toNat ins0).n).toNat ++ [foldE (opE s.sh (l.getD k.toNat ins0).op) (st.drop ((st.length : Int) - (l.getD k.toNat ins0).n).toNat)], v96), ?_, fr15.u4.u4.u4.u4.u4.u4.u4.u4, (Hp.conv (hH98.sub (sQ (sQ sR))) (by rw [flat_take elL_len, List.length_append, List.length_take, Nat.min_eq_left (by omega), List.flatMap_append]; done)), rfl, (congrArg I (by rfl)), ?_, ?_, ?_, ?_⟩
        ·((try dsimp only); omega)
        ·omega
        ·omega
        ·exact ev_3i h0 ‹k < _› hst ‹¬ (List.getD l k.toNat ins0).op = 1› ‹¬ (List.getD l k.toNat ins0).op = 2› rfl (by have := (deep_pop hr h0 ‹k < _› hdp ‹¬ (List.getD l k.toNat ins0).op = 1› ‹¬ (List.getD l k.toNat ins0).op = 2›); omega)
        ·(have hq := (deep_pop hr h0 ‹k < _› hdp ‹¬ (List.getD l k.toNat ins0).op = 1› ‹¬ (List.getD l k.toNat ins0).op = 2›); rw [hq.2.2, List.length_append, List.length_take, List.length_singleton]; congr 1 <;> omega)
  ·refine CW.exit (id := 0) rfl <| SR <| vm e8_15 <| V (run_indexAddrS (hH15.sl (i := 0) rfl) underlying40 sizeOf43 rfl rfl (by have := deep_fin hr hk ‹¬ k < _› hdp; omega)) <| V (run_ldElS (hH15.sl (i := 0) rfl) underlying43 rfl rfl rfl (by have := deep_fin hr hk ‹¬ k < _› hdp; omega)) <| RL.set hH15 (i := 1) rfl (run_stEl rfl e6_15 rfl (hH15.blk (i := 1) rfl)) <| fun w99 hH100 => ?_
   simp only [z2] at hH100
   refine va (v := B true) rfl <| RL.nil <| CW.ret <| outCT Tryd.results15 e6_15 rfl hH100 (i := 1) rfl underlying43 rfl (by rw [elC_size]; rfl) ⟨?_, hH100.below⟩
   (rw [ev_end hr hk ‹¬ k < _› hst]; rfl)
theorem c_tally_table_place (b : Nat) (r : Rl) (d s : Int) (vw vj : Value) (a : BitVec 64) (w : World) (hb : w.heap[b]? = some (.cells (tabL r d s vw vj).toArray 97 (0, 0))) (hW : Sl w vw 1 (wordsT r (pts r).toNat).length ((wordsT r (pts r).toNat).map U)) : Calls Tryd.prog 40 #[.pointer (some ⟨b, 0, none⟩), U a] w (Pure (I (plW r a)) w) := by
 have hp := pts_bd r
 have hpp : pts r = max 0 (min r.n 64) := rfl
 have hwl := wordsT_len (r := r) (k := (pts r).toNat)
 refine enter Tryd.func40 rfl Tryd.ntmps40 rfl <| have hH := Hp.start w; SR <| va (v := I 0) rfl <| RL.nil <| CW.seq <| SR <| vm (v := Pn _ _) rfl <| V (run_nilCheck rfl) <| V (fA underlying97 68 rfl sizeOf94 rfl) <| V (run_ld underlying94 rfl rfl (hH.extCell hb tab_w)) <| V (run_lenSl (hW.hp hH) rfl underlying94 rfl) <| vm (v := I 0) rfl <| RL.nil <| CW.block <| CW.loop (G := Int) (fun k s' w' => (Fr (rg 4 3 (rg 12 10 [])) _ s') ∧ (Hp w w' _) ∧ (s' 12 = I k) ∧ (0 ≤ k) ∧ (k ≤ pts r) ∧ (∀ j : Int, 0 ≤ j → j < k → belowR r j ≠ a)) (fun k => (pts r - k).toNat) (0) ⟨Fr.refl _ _, hH, rfl, (by omega), (by omega), fun j a b => absurd b (by omega)⟩ <| ?_
 rintro k sg1 w1 ⟨fr1, hH1, e12_1, h0, hk, hf⟩
 have e1_1 := fr1.uu 1 rfl rfl
 have e10_1 := (fr1 10 rfl).trans (by conv => lhs; whnf)
 have e11_1 := fr1.ii 11 rfl rfl
 refine SR <| V (run_lss e12_1 e11_1) <| RL.nil <| CW.seq <| CW.condP rfl (fun h3 => ?_) (fun h3 => ?_)
 ·refine CW.skip <| CW.seq <| CW.block <| SR <| vm e12_1 <| V (run_indexAddrS (hW.hp hH1) underlying94 sizeOf41 e10_1 e12_1 (by omega)) <| V (run_ld underlying41 rfl rfl (words_cell (hW.hp hH1) (by omega))) <| aI rfl <| aU rfl <| RL.nil <| SR <| mU rfl <| vm e1_1 <| V (run_eqlU rfl rfl) <| RL.nil <| CW.condP rfl (fun h5 => ?_) (fun h5 => ?_)
  ·refine SR <| mI rfl <| aI rfl <| RL.nil <| CW.ret <| outP1 Tryd.results40 (congrArg I ?_) hH1.below
   exact (pl_yes h0 (by omega) ‹_› hf).symm
  ·refine CW.skip <| CW.region <| V (run_add e12_1 rfl (by omega)) <| mI rfl <| RL.nil <| ?_
   refine ⟨k + 1, ?_, fr1.u4.u4.u1.u1.u1, hH1, (congrArg I (by rfl)), ?_, ?_, ?_⟩
   ·((try dsimp only); omega)
   ·omega
   ·omega
   ·exact fun j a b => if e : j = k then e ▸ ‹¬ belowR r k = _› else hf j a (by omega)
 ·refine CW.exit (id := 0) rfl <| SR <| va (v := I (-1)) rfl <| RL.nil <| CW.ret <| outP1 Tryd.results40 (congrArg I ?_) hH1.below
  exact (pl_no (k := k) (by omega) hf).symm
set_option maxHeartbeats 1000000 in
theorem c_tally_table_fill (W0 : World) (b : Nat) (r : Rl) (L : List Ent) (w : World) (hT : Tab W0) (hH : Hp W0 w (.blk b (.cells (tabL r 0 1 (.slice none 0 0) (.slice none 0 0)).toArray 97 (0, 0)) :: L)) : Calls Tryd.prog 39 #[.pointer (some ⟨b, 0, none⟩)] w (Ret fun u w' => u = .tuple #[] ∧ ∃ (v1 v2 : Value) (rs : List RwU) (Z : List Ent), TabV (Kz KN Z) r v1 v2 rs ∧ Hp W0 w' (.blk b (.cells (tabL r 0 1 (v1) (v2)).toArray 97 (0, 0)) :: (Z ++ L))) := by
 have hp := pts_bd r
 have hpp : pts r = max 0 (min r.n 64) := rfl
 have hwl := wordsT_len (r := r) (k := (pts r).toNat)
 refine enter Tryd.func39 rfl Tryd.ntmps39 rfl <| have hN := (hH.nilRow 94 1).nilRow 41 1; SR <| vm (v := Pn _ _) rfl <| V (run_nilCheck rfl) <| V (fA underlying97 0 rfl sizeOf56 rfl) <| V (fA underlying56 0 rfl sizeOf3 rfl) <| V (run_ld underlying3 rfl rfl (hN.cell (i := 2) rfl tab_n)) <| V (run_minI rfl rfl) <| V (run_maxI rfl rfl) <| aI rfl <| RL.nil <| CW.seq <| SR <| mI rfl <| vm (v := I 0) rfl <| RL.nil <| CW.block <| CW.loop (G := Int × Value) (fun ⟨k, v1⟩ s' w' => (Fr (3 :: (rg 17 19 [])) _ s') ∧ (Hp W0 w' (.row v1 41 1 (wordsT r (k).toNat).length ((wordsT r (k).toNat).map U) :: _ :: .blk b (.cells (tabL r 0 1 (v1) (.slice none 0 0)).toArray 97 (0, 0)) :: _)) ∧ (s' 17 = I k) ∧ (0 ≤ k) ∧ (k ≤ pts r)) (fun ⟨k, v1⟩ => (pts r - k).toNat) ((0, .slice none 0 0)) ⟨Fr.refl _ _, hN, rfl, (by omega), (by omega)⟩ <| ?_
 rintro ⟨k, v1⟩ sg1 w1 ⟨fr1, hH1, e17_1, h0, hk⟩
 have e0_1 := fr1.pp 0 rfl rfl
 have e2_1 := fr1.ii 2 rfl rfl
 have e16_1 := fr1.ii 16 rfl rfl
 have hwk := wordsT_len (r := r) (k := k.toNat)
 refine SR <| V (run_lss e17_1 e16_1) <| RL.nil <| CW.seq <| CW.condP rfl (fun h3 => ?_) (fun h3 => ?_)
 ·refine CW.skip <| CW.cutG (G := (Value)) hH1 (3 :: (rg 19 16 [])) (fun (L : List Ent) (v3 : (Value)) => ((L).set 2 (.blk b (.cells (tabL r 0 1 (v3) (.slice none 0 0)).toArray 97 (0, 0)))).set 0 (.row v3 41 1 (wordsT r ((k + 1)).toNat).length ((wordsT r ((k + 1)).toNat).map U))) (fun (v3 : (Value)) s' => True) ?_ ?_
  ·refine CW.block <| SR <| vm e17_1 <| aI rfl <| RL.nil <| CW.regionS (by kernel_rfl) hH1 (sQ (sP (sQ sR))) <| fun w4 hH5 => have zh5 := hH5.sub (sQ (sP (sQ sR))); AQ 0 rfl zh5 (run_move e0_1) <| AQ 1 rfl zh5 (run_move e0_1) <| AQ 2 rfl zh5 (run_nilCheck rfl) <| AQ 3 rfl zh5 (fA underlying97 68 rfl sizeOf94 rfl) <| AQ 5 rfl zh5 (run_move e0_1) <| AQ 6 rfl zh5 (run_nilCheck rfl) <| AQ 7 rfl zh5 (fA underlying97 0 rfl sizeOf56 rfl) <| AQ 9 rfl zh5 (mV (I _) rfl) <| AN.two 4 8 (by kernel_rfl) ?_ ?_
   ·refine AO.read rfl gnone rfl hH5 (sQ (sP (sQ sR))) (run_ld underlying94 rfl rfl (hH5.cell (i := 2) rfl tab_w)) <| A1 8 <| AO.read rfl gnone rfl hH5 (sQ (sP (sQ sR))) (run_ldTab underlying56 rfl rfl rfl (hH5.blk (i := 2) rfl)) <| A1 10 <| AO.callP rfl gnone rfl hH5 (sQ (sP (sQ sR))) (c_hasse_Word _ _  _ (hT.hp hH5)) (run_call2 call44 rfl rfl) <| fun w10 hH11 => A1 11 <| AO.new rfl gnone rfl hH11 (sQ (sP (sQ sR))) (f := fun b => .slice (some ⟨b, 0, none⟩) 1 1) (run_mkL underlying94 rfl rfl (sz := 1) (vs := [U _]) rfl rfl (by decide) (by decide) rfl rfl) <| fun b14 w12 hH13 => ?_
    (try simp only [clX] at hH13)
    refine A1 12 <| AO.app rfl gnone rfl hH13 (j := 1) rfl (fun _ => (sQ (sQ (sP (sQ sR))))) (hH13.slBlk (i := 0) (n := 1) (sz := 1) rfl rfl (by decide)) rfl rfl underlying94 rfl rfl (size := 1) (bytes := 8) rfl rfl rfl (by decide) (by simp [Value.oneCell']) (by omega) (by simp only [maxLen]; omega) <| fun v17 w15 hH16 => ?_
    simp only [z2] at hH16
    refine AQ 13 rfl (hH16.sub (sQ (sQ (sP (sQ sR))))) (run_nilCheck rfl) <| AQ 14 rfl (hH16.sub (sQ (sQ (sP (sQ sR))))) (fA underlying97 68 rfl sizeOf94 rfl) <| A1 15 <| AO.set rfl gnone hH16 (j := 3) rfl (sQ (sQ (sP (sQ sR)))) (run_st rfl rfl (v := v17) rfl (row_cells (hH16.get (i := 1) rfl)).1 (row_cells (hH16.get (i := 1) rfl)).2 (hH16.blk (i := 3) rfl) (by show _ < (tabL _ _ _ _ _).toArray.size; rw [List.size_toArray, tabL_len]; decide)) <| fun w20 hH21 => ?_
    simp only [z2] at hH21
    rw [tab_setw] at hH21
    refine AD ?_
    refine ⟨((Fr.refl _ _)).u4.u4.u4.u4.u1, v17, (Hp.conv (hH21.sub (sQ sR)) (by rw [wordsT_next h0, List.map_append, List.length_append]; rfl)), trivial⟩
   ·refine AO.read rfl gnone rfl hH5 (sQ (sP (sQ sR))) (run_ldTab underlying56 rfl rfl rfl (hH5.blk (i := 2) rfl)) <| AN.two 4 10 (by kernel_rfl) ?_ ?_
    ·refine AO.read rfl gnone rfl hH5 (sQ (sP (sQ sR))) (run_ld underlying94 rfl rfl (hH5.cell (i := 2) rfl tab_w)) <| A1 10 <| AO.callP rfl gnone rfl hH5 (sQ (sP (sQ sR))) (c_hasse_Word _ _  _ (hT.hp hH5)) (run_call2 call44 rfl rfl) <| fun w26 hH27 => A1 11 <| AO.new rfl gnone rfl hH27 (sQ (sP (sQ sR))) (f := fun b => .slice (some ⟨b, 0, none⟩) 1 1) (run_mkL underlying94 rfl rfl (sz := 1) (vs := [U _]) rfl rfl (by decide) (by decide) rfl rfl) <| fun b30 w28 hH29 => ?_
     (try simp only [clX] at hH29)
     refine A1 12 <| AO.app rfl gnone rfl hH29 (j := 1) rfl (fun _ => (sQ (sQ (sP (sQ sR))))) (hH29.slBlk (i := 0) (n := 1) (sz := 1) rfl rfl (by decide)) rfl rfl underlying94 rfl rfl (size := 1) (bytes := 8) rfl rfl rfl (by decide) (by simp [Value.oneCell']) (by omega) (by simp only [maxLen]; omega) <| fun v33 w31 hH32 => ?_
     simp only [z2] at hH32
     refine AQ 13 rfl (hH32.sub (sQ (sQ (sP (sQ sR))))) (run_nilCheck rfl) <| AQ 14 rfl (hH32.sub (sQ (sQ (sP (sQ sR))))) (fA underlying97 68 rfl sizeOf94 rfl) <| A1 15 <| AO.set rfl gnone hH32 (j := 3) rfl (sQ (sQ (sP (sQ sR)))) (run_st rfl rfl (v := v33) rfl (row_cells (hH32.get (i := 1) rfl)).1 (row_cells (hH32.get (i := 1) rfl)).2 (hH32.blk (i := 3) rfl) (by show _ < (tabL _ _ _ _ _).toArray.size; rw [List.size_toArray, tabL_len]; decide)) <| fun w36 hH37 => ?_
     simp only [z2] at hH37
     rw [tab_setw] at hH37
     refine AD ?_
     refine ⟨((Fr.refl _ _)).u4.u4.u4.u4.u1, v33, (Hp.conv (hH37.sub (sQ sR)) (by rw [wordsT_next h0, List.map_append, List.length_append]; rfl)), trivial⟩
    ·refine AO.callP rfl gnone rfl hH5 (sQ (sP (sQ sR))) (c_hasse_Word _ _  _ (hT.hp hH5)) (run_call2 call44 rfl rfl) <| fun w38 hH39 => AN.two 4 11 (by kernel_rfl) ?_ ?_
     ·refine AO.read rfl gnone rfl hH39 (sQ (sP (sQ sR))) (run_ld underlying94 rfl rfl (hH39.cell (i := 2) rfl tab_w)) <| A1 11 <| AO.new rfl gnone rfl hH39 (sQ (sP (sQ sR))) (f := fun b => .slice (some ⟨b, 0, none⟩) 1 1) (run_mkL underlying94 rfl rfl (sz := 1) (vs := [U _]) rfl rfl (by decide) (by decide) rfl rfl) <| fun b44 w42 hH43 => ?_
      (try simp only [clX] at hH43)
      refine A1 12 <| AO.app rfl gnone rfl hH43 (j := 1) rfl (fun _ => (sQ (sQ (sP (sQ sR))))) (hH43.slBlk (i := 0) (n := 1) (sz := 1) rfl rfl (by decide)) rfl rfl underlying94 rfl rfl (size := 1) (bytes := 8) rfl rfl rfl (by decide) (by simp [Value.oneCell']) (by omega) (by simp only [maxLen]; omega) <| fun v47 w45 hH46 => ?_
      simp only [z2] at hH46
      refine AQ 13 rfl (hH46.sub (sQ (sQ (sP (sQ sR))))) (run_nilCheck rfl) <| AQ 14 rfl (hH46.sub (sQ (sQ (sP (sQ sR))))) (fA underlying97 68 rfl sizeOf94 rfl) <| A1 15 <| AO.set rfl gnone hH46 (j := 3) rfl (sQ (sQ (sP (sQ sR)))) (run_st rfl rfl (v := v47) rfl (row_cells (hH46.get (i := 1) rfl)).1 (row_cells (hH46.get (i := 1) rfl)).2 (hH46.blk (i := 3) rfl) (by show _ < (tabL _ _ _ _ _).toArray.size; rw [List.size_toArray, tabL_len]; decide)) <| fun w50 hH51 => ?_
      simp only [z2] at hH51
      rw [tab_setw] at hH51
      refine AD ?_
      refine ⟨((Fr.refl _ _)).u4.u4.u4.u4.u1, v47, (Hp.conv (hH51.sub (sQ sR)) (by rw [wordsT_next h0, List.map_append, List.length_append]; rfl)), trivial⟩
     ·refine AO.new rfl gnone rfl hH39 (sQ (sP (sQ sR))) (f := fun b => .slice (some ⟨b, 0, none⟩) 1 1) (run_mkL underlying94 rfl rfl (sz := 1) (vs := [U _]) rfl rfl (by decide) (by decide) rfl rfl) <| fun b54 w52 hH53 => ?_
      (try simp only [clX] at hH53)
      refine A1 4 <| AO.read rfl gnone rfl hH53 (sQ (sQ (sP (sQ sR)))) (run_ld underlying94 rfl rfl (hH53.cell (i := 3) rfl tab_w)) <| A1 12 <| AO.app rfl gnone rfl hH53 (j := 1) rfl (fun _ => (sQ (sQ (sP (sQ sR))))) (hH53.slBlk (i := 0) (n := 1) (sz := 1) rfl rfl (by decide)) rfl rfl underlying94 rfl rfl (size := 1) (bytes := 8) rfl rfl rfl (by decide) (by simp [Value.oneCell']) (by omega) (by simp only [maxLen]; omega) <| fun v59 w57 hH58 => ?_
      simp only [z2] at hH58
      refine AQ 13 rfl (hH58.sub (sQ (sQ (sP (sQ sR))))) (run_nilCheck rfl) <| AQ 14 rfl (hH58.sub (sQ (sQ (sP (sQ sR))))) (fA underlying97 68 rfl sizeOf94 rfl) <| A1 15 <| AO.set rfl gnone hH58 (j := 3) rfl (sQ (sQ (sP (sQ sR)))) (run_st rfl rfl (v := v59) rfl (row_cells (hH58.get (i := 1) rfl)).1 (row_cells (hH58.get (i := 1) rfl)).2 (hH58.blk (i := 3) rfl) (by show _ < (tabL _ _ _ _ _).toArray.size; rw [List.size_toArray, tabL_len]; decide)) <| fun w62 hH63 => ?_
      simp only [z2] at hH63
      rw [tab_setw] at hH63
      refine AD ?_
      refine ⟨((Fr.refl _ _)).u4.u4.u4.u4.u1, v59, (Hp.conv (hH63.sub (sQ sR)) (by rw [wordsT_next h0, List.map_append, List.length_append]; rfl)), trivial⟩
  ·rintro v3 sg64 w64 fr64 hH64 -
   simp only [z2] at hH64
   have e17_64 := (fr64 17 rfl).trans e17_1
   refine CW.region <| V (run_add e17_64 rfl (by omega)) <| mI rfl <| RL.nil <| ?_
   refine ⟨(k + 1, v3), ?_, (((fr1.u rfl).t fr64 rfl)).u1.u1, (Hp.conv hH64 (by rfl)), (congrArg I (by rfl)), ?_, ?_⟩
   ·((try dsimp only); omega)
   ·omega
   ·omega
 ·refine CW.exit (id := 0) rfl <| SR <| vm e2_1 <| vm (v := I 0) rfl <| RL.nil <| CW.block <| have hk1 : k.toNat = (pts r).toNat := (by omega); ?_
  rw [hk1] at hH1
  refine CW.loop (G := Int × Value × (List RwU) × (List Ent)) (fun ⟨i, v2, rs, Z1⟩ s' w' => (Fr (rg 4 5 (rg 37 76 [])) _ s') ∧ (Hp W0 w' (_ :: .row v2 94 1 rs.length (rs.map RwU.v) :: .blk b (.cells (tabL r 0 1 (v1) (v2)).toArray 97 (0, 0)) :: Z1)) ∧ (s' 37 = I i) ∧ (0 ≤ i) ∧ (i ≤ pts r) ∧ (rs.map RwU.l = joinsT r (pts r).toNat i.toNat) ∧ (∃ Zr, Z1 = Zr ++ L ∧ ∀ x ∈ rs, SlV (Kz KN Zr) x.v 1 x.l.length (x.l.map U)) ∧ (rs.length = i.toNat)) (fun ⟨i, v2, rs, Z1⟩ => (pts r - i).toNat) ((0, .slice none 0 0, [], L)) ⟨Fr.refl _ _, hH1, rfl, (by omega), (by omega), rfl, ⟨[], rfl, fun x hx => by cases hx⟩, rfl⟩ ?_
  rintro ⟨i, v2, rs, Z1⟩ sg65 w65 ⟨fr65, hH65, e37_65, i0, hi, hrs, hZ, hln⟩
  have e0_65 := (fr65 0 rfl).trans e0_1
  have e2_65 := (fr65 2 rfl).trans e2_1
  have e36_65 := fr65.ii 36 rfl rfl
  obtain ⟨Zr, rfl, hE⟩ := hZ
  refine SR <| V (run_lss e37_65 e36_65) <| RL.nil <| CW.seq <| CW.condP rfl (fun h67 => ?_) (fun h67 => ?_)
  ·refine CW.skip <| CW.seq <| CW.block <| SR <| vm e37_65 <| aI rfl <| RL.nil <| SR <| vm e2_65 <| RL.new rfl hH65 (f := fun b => (.slice (some ⟨b, 0, none⟩) (pts r).toNat (pts r).toNat)) (run_mkRow (cl := fun x : BitVec 64 => [U x]) (sz := 1) (z0 := 0#64) (n := (pts r).toNat) (fun _ => rfl) (by decide) underlying94 rfl rfl (by kernel_rfl) rfl (congrArg I (show _ = (((pts r).toNat : Nat) : Int) from by omega)) (congrArg I (show _ = (((pts r).toNat : Nat) : Int) from by omega)) (by show 8 * _ ≤ _; omega) (by simp only [maxLen]; omega)) <| fun b68 w69 hH70 => ?_
   rw [mk_zero (r := r) (i := i)] at hH70
   have hH71 := hH70.blkRow (pts r).toNat 1 (by rw [List.length_map, rowJ_len, Nat.mul_one]) (by simp only [maxLen]; omega)
   refine V (run_assign (by conv => lhs; whnf)) ?_
   refine RL.nil <| CW.seq <| SR <| vm e2_65 <| vm (v := I 0) rfl <| RL.nil <| CW.block <| CW.loop (G := Int) (fun j s' w' => (Fr (rg 6 3 (rg 43 59 [])) _ s') ∧ (Hp W0 w' (.row (.slice (some ⟨b68, 0, none⟩) (pts r).toNat (pts r).toNat) 41 1 (pts r).toNat ((rowJ r i (pts r).toNat j.toNat).map U) :: _)) ∧ (s' 43 = I j) ∧ (0 ≤ j) ∧ (j ≤ pts r)) (fun j => (pts r - j).toNat) (0) ⟨Fr.refl _ _, hH71, rfl, (by omega), (by omega)⟩ <| ?_
   rintro j sg72 w72 ⟨fr72, hH72, e43_72, j0, hj⟩
   have e0_72 := (fr72 0 rfl).trans e0_65
   have e4_72 := fr72.ii 4 rfl rfl
   have e5_72 := (fr72 5 rfl).trans (by conv => lhs; whnf)
   have e37_72 := (fr72 37 rfl).trans e37_65
   have e42_72 := fr72.ii 42 rfl rfl
   refine SR <| V (run_lss e43_72 e42_72) <| RL.nil <| CW.seq <| CW.condP rfl (fun h74 => ?_) (fun h74 => ?_)
   ·refine CW.skip <| CW.seq <| CW.block <| SR <| vm e43_72 <| aI rfl <| RL.nil <| CW.seq <| CW.regionS (by kernel_rfl) hH72 (sQ sR) <| fun w75 hH76 => have zh76 := hH76.sub (sQ sR); AQ 0 rfl zh76 (run_move e5_72) <| AQ 1 rfl zh76 (mV (I _) rfl) <| AQ 2 rfl zh76 (run_move e0_72) <| AQ 3 rfl zh76 (run_nilCheck rfl) <| AQ 4 rfl zh76 (fA underlying97 68 rfl sizeOf94 rfl) <| AT 5 rfl zh76 (fun w hS => run_ld underlying94 rfl rfl (hS.cell (i := 2) rfl tab_w)) <| AQ 6 rfl zh76 (run_move e4_72) <| AT 7 rfl zh76 (fun w hS => run_indexAddrS (hS.sl (i := 0) rfl) underlying94 sizeOf41 rfl rfl (by omega)) <| AT 8 rfl zh76 (fun w hS => run_ld underlying41 rfl rfl (words_cell (hS.sl (i := 0) rfl) (by omega))) <| AQ 9 rfl zh76 (run_move e0_72) <| AQ 10 rfl zh76 (run_nilCheck rfl) <| AQ 11 rfl zh76 (fA underlying97 68 rfl sizeOf94 rfl) <| AT 12 rfl zh76 (fun w hS => run_ld underlying94 rfl rfl (hS.cell (i := 2) rfl tab_w)) <| AQ 13 rfl zh76 (mV (I _) rfl) <| AT 14 rfl zh76 (fun w hS => run_indexAddrS (hS.sl (i := 0) rfl) underlying94 sizeOf41 rfl rfl (by omega)) <| AT 15 rfl zh76 (fun w hS => run_ld underlying41 rfl rfl (words_cell (hS.sl (i := 0) rfl) (by omega))) <| AQ 16 rfl zh76 (run_orU rfl rfl) <| A1 17 <| AO.read rfl gnone rfl hH76 (sQ sR) (run_indexAddrS (hH76.sl (i := 0) rfl) underlying94 sizeOf41 rfl rfl (by omega)) <| A1 18 <| AO.rowst1 (u := U _) rfl gnone hH76 (i := 0) rfl (fun _ => (sQ sR)) (by omega) rfl rfl rfl rfl rfl (by omega) <| fun w81 hH82 => ?_
    simp only [z2] at hH82
    rw [putL_set (by rw [List.length_map]; (try rw [List.length_set]); rw [rowJ_len]; omega), set_mapU, Nat.mul_one] at hH82
    refine AD <| CW.seq <| CW.regionD (by kernel_rfl) hH82 <| fun w83 hH84 => have zh84 := hH84.sub sR; AQ 0 rfl zh84 (run_move e0_72) <| AQ 1 rfl zh84 (run_nilCheck rfl) <| AQ 2 rfl zh84 (fA underlying97 0 rfl sizeOf56 rfl) <| AT 3 rfl zh84 (fun w hS => run_ldTab underlying56 rfl rfl rfl (hS.blk (i := 3) rfl)) <| AQ 4 rfl zh84 (run_move e0_72) <| AQ 5 rfl zh84 (run_move e0_72) <| AQ 6 rfl zh84 (run_nilCheck rfl) <| AQ 7 rfl zh84 (fA underlying97 68 rfl sizeOf94 rfl) <| AT 8 rfl zh84 (fun w hS => run_ld underlying94 rfl rfl (hS.cell (i := 3) rfl tab_w)) <| AQ 9 rfl zh84 (run_move e4_72) <| AT 10 rfl zh84 (fun w hS => run_indexAddrS (hS.sl (i := 1) rfl) underlying94 sizeOf41 rfl rfl (by omega)) <| AT 11 rfl zh84 (fun w hS => run_ld underlying41 rfl rfl (words_cell (hS.sl (i := 1) rfl) (by omega))) <| AQ 13 rfl zh84 (run_move e0_72) <| AQ 14 rfl zh84 (run_move e0_72) <| AQ 15 rfl zh84 (run_nilCheck rfl) <| AQ 16 rfl zh84 (fA underlying97 68 rfl sizeOf94 rfl) <| AT 17 rfl zh84 (fun w hS => run_ld underlying94 rfl rfl (hS.cell (i := 3) rfl tab_w)) <| AQ 18 rfl zh84 (mV (I _) rfl) <| AT 19 rfl zh84 (fun w hS => run_indexAddrS (hS.sl (i := 1) rfl) underlying94 sizeOf41 rfl rfl (by omega)) <| AT 20 rfl zh84 (fun w hS => run_ld underlying41 rfl rfl (words_cell (hS.sl (i := 1) rfl) (by omega))) <| A1 12 <| AO.callP rfl gnone rfl hH84 sR (c_tally_table_place _ _ _ _ _ _ _ _ (hH84.blk (i := 3) rfl) (hH84.sl (i := 1) rfl)) (run_call2 call40 rfl rfl) <| fun w85 hH86 => A1 21 <| AO.callP rfl gnone rfl hH86 sR (c_tally_table_place _ _ _ _ _ _ _ _ (hH86.blk (i := 3) rfl) (hH86.sl (i := 1) rfl)) (run_call2 call40 rfl rfl) <| fun w87 hH88 => A1 22 <| AO.callP rfl gnone rfl hH88 sR (c_hasse_Join _ _ _  _ (hT.hp hH88)) (run_call3 call45 rfl rfl rfl) <| fun w89 hH90 => have zh90 := hH90.sub sR; ?_
    refine AQ 23 rfl zh90 (run_move (by conv => lhs; whnf)) ?_
    refine AQ 24 rfl zh90 (run_extract rfl (v := I _) rfl) <| AQ 25 rfl zh90 (run_extract rfl (v := B _) rfl) <| AQ 26 rfl zh90 (aV (I _) rfl) <| AQ 27 rfl zh90 (aV (B _) rfl) <| AD <| SR <| mB rfl <| RL.nil <| CW.cond rfl (fun h92 => ?_) (fun h92 => ?_)
    ·refine CW.region <| vm e5_72 <| mI rfl <| vm e0_72 <| V (run_nilCheck rfl) <| V (fA underlying97 68 rfl sizeOf94 rfl) <| V (run_ld underlying94 rfl rfl (hH90.cell (i := 3) rfl tab_w)) <| mI rfl <| V (run_indexAddrS (hH90.sl (i := 1) rfl) underlying94 sizeOf41 rfl rfl (by have := joinV_is r _ _ ‹(joinV r _ _).2 = true›; omega)) <| V (run_ld underlying41 rfl rfl (words_cell (hH90.sl (i := 1) rfl) (by have := joinV_is r _ _ ‹(joinV r _ _).2 = true›; omega))) <| V (run_indexAddrS (hH90.sl (i := 0) rfl) underlying94 sizeOf41 rfl rfl (by omega)) <| RL.rowst1 (u := U _) hH90 (i := 0) rfl (by omega) rfl rfl rfl rfl rfl (by omega) <| fun w93 hH94 => ?_
     simp only [z2] at hH94
     rw [putL_set (by rw [List.length_map]; (try rw [List.length_set]); rw [rowJ_len]; omega), set_mapU, Nat.mul_one] at hH94
     refine RL.nil <| CW.region <| V (run_add e43_72 rfl (by omega)) <| mI rfl <| RL.nil <| ?_
     refine ⟨j + 1, ?_, fr72.u4.u4.u4.u4.u4.u4.u4.u4.u4.u4.u4.u4.u4.u4.u4.u1.u1, (Hp.conv hH94 (by rw [rowJ_set2 (by omega) (joinT_yes ‹_ = true›).symm]; done)), (congrArg I (by rfl)), ?_, ?_⟩
     ·((try dsimp only); omega)
     ·omega
     ·omega
    ·refine CW.skip <| CW.region <| V (run_add e43_72 rfl (by omega)) <| mI rfl <| RL.nil <| ?_
     refine ⟨j + 1, ?_, fr72.u4.u4.u4.u4.u4.u4.u4.u4.u4.u4.u4.u4.u4, (Hp.conv hH90 (by rw [rowJ_set (by omega) (joinT_no ‹_ = false›).symm]; done)), (congrArg I (by rfl)), ?_, ?_⟩
     ·((try dsimp only); omega)
     ·omega
     ·omega
   ·refine CW.exit (id := 4) rfl <| CW.region <| vm e0_72 <| vm e0_72 <| V (run_nilCheck rfl) <| V (fA underlying97 69 rfl sizeOf95 rfl) <| V (run_ld underlying95 rfl rfl (hH72.cell (i := 3) rfl tab_j)) <| vm e5_72 <| RL.new rfl hH72 (f := fun b => (.slice (some ⟨b, 0, none⟩) 1 1)) (run_mkSl1 (v := (.slice (some ⟨b68, 0, none⟩) (pts r).toNat (pts r).toNat)) rfl underlying95 rfl rfl rfl rfl) <| fun b97 w95 hH96 => ?_
    (try simp only [clX] at hH96)
    refine RL.app rfl hH96 (i := 3) rfl (hH96.slBlk (i := 0) (n := 1) (sz := 1) rfl rfl (by decide)) rfl rfl underlying95 rfl rfl (size := 1) (bytes := 24) rfl rfl rfl (by decide) (by simp [Value.oneCell']) (by omega) (by simp only [maxLen]; omega) <| fun v98 w99 hH100 => ?_
    simp only [z2] at hH100
    refine V (run_nilCheck rfl) <| V (fA underlying97 69 rfl sizeOf95 rfl) <| RL.set hH100 (i := 4) rfl (run_st rfl rfl (v := v98) rfl (row_cells (hH100.get (i := 3) rfl)).1 (row_cells (hH100.get (i := 3) rfl)).2 (hH100.blk (i := 4) rfl) (by show _ < (tabL _ _ _ _ _).toArray.size; rw [List.size_toArray, tabL_len]; decide)) <| fun w101 hH102 => ?_
    simp only [z2] at hH102
    rw [tab_setj] at hH102
    refine RL.nil <| CW.region <| ?_
    rw [show j.toNat = (pts r).toNat by omega] at hH102
    obtain ⟨Z103, hz104, hv105, -⟩ := (hH102.perm (((pC pR).trans pS).trans (pC pR))).frz (KN)
    have hH106 : Hp _ w101 (_ :: _ :: _ :: _ :: (Z103 ++ (Zr ++ L))) := hz104.zin (L := [_, _, _, _]) (L' := (Zr ++ L))
    refine V (run_add e37_72 rfl (by omega)) <| mI rfl <| RL.nil <| ?_
    refine ⟨(i + 1, v98, rs ++ [RwU.mk (.slice (some ⟨b68, 0, none⟩) (pts r).toNat (pts r).toNat) (rowJ r i (pts r).toNat (pts r).toNat)], (Z103 ++ (Zr ++ L))), ?_, (((fr65.u4.u4).t fr72 rfl)).u4.u4.u4.u1, (Hp.conv (hH106.sub (sQ sR)) (by simp only [List.map_append, List.length_append, List.map_cons, List.map_nil, List.length_singleton]; done)), (congrArg I (by rfl)), ?_, ?_, ?_, ?_, ?_⟩
    ·((try dsimp only); omega)
    ·omega
    ·omega
    ·rw [List.map_append, hrs, joins_next i0]; rfl
    ·exact ⟨Z103 ++ Zr, (List.append_assoc _ _ _).symm, rus_more hE hv105⟩
    ·rw [List.length_append, List.length_singleton]; omega
  ·refine CW.exit (id := 2) rfl ?_
   obtain ⟨Z107, hz108, hv109, -⟩ := hH65.frz (KN)
   have hH110 : Hp _ w65 (_ :: _ :: (Z107 ++ (Zr ++ L))) := hz108.zin (L := [_, _]) (L' := (Zr ++ L))
   obtain ⟨Z111, hz112, hv113, -⟩ := hH110.frz (KN)
   have hH114 : Hp _ w65 (_ :: (Z111 ++ (Z107 ++ (Zr ++ L)))) := hz112.zin (L := [_]) (L' := (Z107 ++ (Zr ++ L)))
   have ei : i = pts r := by omega
   rw [show i.toNat = (pts r).toNat by omega] at hrs
   have hTV : TabV (Kz KN (Z111 ++ (Z107 ++ Zr))) r v1 v2 rs := ⟨hv109.mono (Le.zz (fun x hx => (List.mem_append_right _ (List.mem_append_left _ hx)))), hv113.mono (Le.zz (fun x hx => (List.mem_append_left _ hx))), fun x hx => (hE x hx).mono (Le.zz (fun x hx => (List.mem_append_right _ (List.mem_append_right _ hx)))), hrs⟩
   exact out0 Tryd.results39 ⟨rfl, v1, v2, rs, _, hTV, by simpa only [List.append_assoc] using hH114⟩
section
theorem rc_disable (w : World) : (callFunc 65 #[]).run Tryd.prog w = .ok (.value (.tuple #[])) w := run_call_mark0 Tryd.func65 (by kernel_rfl) (by kernel_rfl) (by kernel_rfl) .disable (by kernel_rfl) w
theorem rc_enable (w : World) : (callFunc 67 #[]).run Tryd.prog w = .ok (.value (.tuple #[])) w := run_call_mark0 Tryd.func67 (by kernel_rfl) (by kernel_rfl) (by kernel_rfl) .enable (by kernel_rfl) w
theorem rc_acquire (a : Addr) (w : World) : (callFunc 68 #[.pointer (some a)]).run Tryd.prog w = .ok (.value (.tuple #[])) w := run_call_marked Tryd.func68 (by kernel_rfl) (by kernel_rfl) (by kernel_rfl) .acquire (by kernel_rfl) a w
theorem rc_merge (a : Addr) (w : World) : (callFunc 70 #[.pointer (some a)]).run Tryd.prog w = .ok (.value (.tuple #[])) w := run_call_marked Tryd.func70 (by kernel_rfl) (by kernel_rfl) (by kernel_rfl) .releaseMerge (by kernel_rfl) a w
theorem on_store (a : Addr) (x : Value) (u : FrameMode) (w : World) (hc : w.cell? a = some x) (hz : w.frozen? a = false) :
  CallsD Tryd.prog 50 #[.pointer (some a), .bool true] u w fun e u' w' => u' = u ∧ (e = .returned (.tuple #[]) ∧ w' = w.drew.setCell a (.int .u32 1)) := by
 have hc' : w.drew.cell? a = some x := by go_simp
 have hz' : w.drew.frozen? a = false := by go_simp
 have hst := run_call_store (P := Tryd.prog) Tryd.func57 (by kernel_rfl) (by kernel_rfl) (by kernel_rfl) (by kernel_rfl) (k := .u32) (y := 1) hc' hz'
 go_enter_d Tryd.func50, Tryd.ntmps50
 go_wp2
 go_region_calls
 all_goals (go_end0; exact ⟨rfl, rfl⟩)
theorem on_unlock (a : Addr) (u : FrameMode) (w : World) (hc : w.cell? a = some (.int .i32 1)) (hz : w.frozen? a = false) :
  CallsD Tryd.prog 49 #[.pointer (some a)] u w fun e u' w' => u' = u ∧ (e = .returned (.tuple #[]) ∧ w' = w.setCell a (.int .i32 0)) := by
 have hd := rc_disable
 have he := rc_enable
 have hr := rc_merge
 have hadd := run_call_add (P := Tryd.prog) Tryd.func71 (by kernel_rfl) (by kernel_rfl) (by kernel_rfl) .i32 (by kernel_rfl) (y := -1) (s := 0) hc hz (by simp [go_sem]; rfl)
 have hcv := run_convert_to_unsafe (P := Tryd.prog) (src := 126) (dst := 130) underlying126 underlying130 (by kernel_rfl) hc
 go_enter_d Tryd.func49, Tryd.ntmps49
 go_wp2
 go_end0
 go_wp2
 go_end0
 exact ⟨rfl, rfl⟩
theorem on_lock (a : Addr) (w : World) (hc : w.cell? a = some (.int .i32 0)) (hz : w.frozen? a = false) :
  Calls Tryd.prog 48 #[.pointer (some a)] w fun e w' => e = .returned (.tuple #[]) ∧ w' = w.setCell a (.int .i32 1) := by
 have hd := rc_disable
 have he := rc_enable
 have ha := rc_acquire
 have hcas := run_call_cas_hit (P := Tryd.prog) Tryd.func66 (by kernel_rfl) (by kernel_rfl) (by kernel_rfl) .i32 (by kernel_rfl) (y := 1) hc hz
 have hc' : (w.setCell a (.int .i32 1)).cell? a = some (.int .i32 1) := World.cell?_setCell_same w a _ hc
 have hcv := run_convert_to_unsafe (P := Tryd.prog) (src := 126) (dst := 130) underlying126 underlying130 (by kernel_rfl) hc'
 go_enter Tryd.func48, Tryd.ntmps48
 go_wp2
 refine bodyPost_ret (results_none rfl _ _ _) rfl ?_
 go_wp2
 go_end0
 exact ⟨rfl, rfl⟩
theorem ret_inv {q : Value → World → Prop} {e : Ending} {w : World} (h : Ret q e w) : ∃ v, e = .returned v ∧ q v w := by
 cases e <;> first | exact ⟨_, rfl, h⟩ | exact h.elim
set_option maxRecDepth 100000 in
set_option maxHeartbeats 1600000 in
theorem on_slow (W0 w : World) (b : Nat) (r : Rl) (L : List Ent) (hT : Tab W0) (hH : Hp W0 w (.blk b (.cells (tabL r 0 0 (.slice none 0 0) (.slice none 0 0)).toArray 97 (0, 0)) :: L)) :
  Calls Tryd.prog 43 #[.pointer (some ⟨b, 65, none⟩), .func (.func 39) #[.pointer (some ⟨b, 0, none⟩)] #[]] w fun e w' => e = .returned (.tuple #[]) ∧ ∃ (v1 v2 : Value) (rs : List RwU) (Z : List Ent), TabV (Kz KN Z) r v1 v2 rs ∧ Hp W0 w' (.blk b (.cells (tabL r 1 0 (v1) (v2)).toArray 97 (0, 0)) :: (Z ++ L)) := by
 have h66 : w.cell? ⟨b, 65 + 1, none⟩ = some (.int .i32 0) := hH.cell (i := 0) rfl tab_s
 have f66 : w.frozen? ⟨b, 65 + 1, none⟩ = false := hH.fz (i := 0) rfl
 have hH1 := hH.setCell (i := 0) (b := b) (o := 66) (v := .int .i32 1) rfl
 simp only [List.set_cons_zero, tab_sets] at hH1
 have hl := run_call_load (P := Tryd.prog) Tryd.func47 (by kernel_rfl) (by kernel_rfl) (by kernel_rfl) .u32 (by kernel_rfl) (w := w.setCell ⟨b, 65 + 1, none⟩ (.int .i32 1)) (a := ⟨b, 65, none⟩) (x := 0) (hH1.cell (i := 0) rfl tab_d)
 have hnot : ∀ (x : Bool) (w : World), (Op.unary .not (.bool x)).run Tryd.prog w = .ok (.bool (!x)) w := fun _ _ => rfl
 go_enter_defers Tryd.func43, Tryd.ntmps43
 go_wp2_with (go_at_call 48; refine (on_lock ⟨b, 65 + 1, none⟩ _ h66 f66).mono ?_; rintro e w' ⟨rfl, rfl⟩)
 go_wp2_with (first | (go_at_call 39; refine (c_tally_table_fill W0 b r L _ hT hH1).mono ?_; intro e w' hr; obtain ⟨v, rfl, rfl, v1, v2, rs, Z, hV, hH2⟩ := ret_inv hr) | (go_at_call 42; go_in))
 refine leaves_cons (f := 50) (args := #[.pointer (some ⟨b, 65, none⟩), .bool true]) (by simp) (by simp [go_sem]) <| (on_store ⟨b, 65, none⟩ (.int .u32 0) .returning _ (hH2.cell (i := 0) rfl tab_d) (hH2.fz (i := 0) rfl)).mono <| ?_
 rintro e u' w'' ⟨rfl, rfl, rfl⟩
 have hH3 := hH2.drew.setCell (i := 0) (b := b) (o := 65) (v := .int .u32 1) rfl
 simp only [List.set_cons_zero, tab_setd] at hH3
 refine leaves_cons (f := 49) (args := #[.pointer (some ⟨b, 66, none⟩)]) (by simp [settle]) (by simp [go_sem]) <| (on_unlock ⟨b, 66, none⟩ _ _ (hH3.cell (i := 0) rfl tab_s) (hH3.fz (i := 0) rfl)).mono <| ?_
 rintro e u' w'' ⟨rfl, rfl, rfl⟩
 have hH4 := hH3.setCell (i := 0) (b := b) (o := 66) (v := .int .i32 0) rfl
 simp only [List.set_cons_zero, tab_sets] at hH4
 simp [Leaves, settle, results, Tryd.results43]
 exact ⟨v1, v2, rs, Z, hV, hH4⟩
set_option maxRecDepth 100000 in
set_option maxHeartbeats 1600000 in
theorem on_first (W0 w : World) (b : Nat) (r : Rl) (L : List Ent) (hT : Tab W0) (hH : Hp W0 w (.blk b (.cells (tabL r 0 0 (.slice none 0 0) (.slice none 0 0)).toArray 97 (0, 0)) :: L)) :
  Calls Tryd.prog 38 #[.pointer (some ⟨b, 65, none⟩), .func (.func 39) #[.pointer (some ⟨b, 0, none⟩)] #[]] w fun e w' => e = .returned (.tuple #[]) ∧ ∃ (v1 v2 : Value) (rs : List RwU) (Z : List Ent), TabV (Kz KN Z) r v1 v2 rs ∧ Hp W0 w' (.blk b (.cells (tabL r 1 0 (v1) (v2)).toArray 97 (0, 0)) :: (Z ++ L)) := by
 have hl := run_call_load (P := Tryd.prog) Tryd.func47 (by kernel_rfl) (by kernel_rfl) (by kernel_rfl) .u32 (by kernel_rfl) (hH.cell (i := 0) rfl tab_d)
 have hnot : ∀ (x : Bool) (w : World), (Op.unary .not (.bool x)).run Tryd.prog w = .ok (.bool (!x)) w := fun _ _ => rfl
 go_enter Tryd.func38, Tryd.ntmps38
 go_wp2_with (first | (go_at_call 43; refine (on_slow W0 _ b r L hT hH).mono ?_; rintro e w' ⟨rfl, hq⟩) | (go_at_call 42; go_in))
 go_end0
 exact ⟨rfl, hq⟩
theorem on_done (w : World) (b : Nat) (fv : Value) (h0 : w.cell? ⟨b, 65, none⟩ = some (.int .u32 1)) :
  Calls Tryd.prog 38 #[.pointer (some ⟨b, 65, none⟩), fv] w fun e w' => e = .returned (.tuple #[]) ∧ w' = w := by
 have hl := run_call_load (P := Tryd.prog) Tryd.func47 (by kernel_rfl) (by kernel_rfl) (by kernel_rfl) .u32 (by kernel_rfl) h0
 have hnot : ∀ (x : Bool) (w : World), (Op.unary .not (.bool x)).run Tryd.prog w = .ok (.bool (!x)) w := fun _ _ => rfl
 go_enter Tryd.func38, Tryd.ntmps38
 go_wp2
 go_end0
 exact ⟨rfl, rfl⟩
theorem c_once (W0 w : World) (b : Nat) (r : Rl) (Z L : List Ent) (hT : Tab W0) (hZ : TbZ 97 r b Z) (hH : Hp W0 w (Z ++ L)) :
  Calls Tryd.prog 38 #[.pointer (some ⟨b, 65, none⟩), .func (.func 39) #[.pointer (some ⟨b, 0, none⟩)] #[]] w (Ret fun u w' => u = .tuple #[] ∧ ∃ (v1 v2 : Value) (rs : List RwU) (Z : List Ent), TabV (Kz KN Z) r v1 v2 rs ∧ Hp W0 w' (.blk b (.cells (tabL r 1 0 (v1) (v2)).toArray 97 (0, 0)) :: (Z ++ L))) := by
 rcases hZ with rfl | ⟨v1, v2, rs, Zr, rfl, hV⟩
 ·exact (on_first W0 w b r L hT hH).mono fun e w' ⟨he, hq⟩ => by subst he; exact ⟨rfl, hq⟩
 ·exact (on_done w b _ (hH.cell (i := 0) rfl tab_d)).mono fun e w' ⟨he, hw⟩ => by subst he hw; exact ⟨rfl, v1, v2, rs, Zr, hV, hH⟩
end
theorem c_tally_table_raise (W0 : World) (b : Nat) (r : Rl) (Z L : List Ent) (a c : BitVec 64) (w : World) (hT : Tab W0) (hZ : TbZ 97 r b Z) (hH : Hp W0 w (Z ++ L)) : Calls Tryd.prog 33 #[.pointer (some ⟨b, 0, none⟩), U a, U c] w (Ret fun u w' => u = U (raiseV r a c) ∧ ∃ Z', TbZ 97 r b Z' ∧ Hp W0 w' (Z' ++ L)) := by
 refine enter Tryd.func33 rfl Tryd.ntmps33 rfl <| SR <| va (v := U 0#64) rfl <| RL.nil <| SR <| vm (v := Pn _ _) rfl <| V (run_nilCheck rfl) <| V (fA underlying97 65 rfl sizeOf93 rfl) <| vm (v := Pn _ _) rfl <| V (run_mkM1 (v := Pn _ _) rfl) <| RL.callT rfl (c_once W0 _ b r Z L hT hZ hH) (run_call2 call38 rfl rfl) <| ?_
 rintro _ w1 ⟨rfl, v1, v2, rs, Zr, hV, hH2⟩
 have ha := pl_bd r a
 have hc := pl_bd r c
 have hln := hV.len
 have hp := pts_bd r
 refine RL.nil <| SR <| vm (v := Pn _ _) rfl <| mU rfl <| RL.callP rfl hH2 (c_tally_table_place _ _ _ _ _ _ _ _ (hH2.blk (i := 0) rfl) ((hV.words).mono (hH2.kz KN.le (fun x hx => (mT (List.mem_append_left _ hx))))).sl) (run_call2 call40 rfl rfl) <| fun w3 hH4 => vm (v := Pn _ _) rfl <| mU rfl <| RL.callP rfl hH4 (c_tally_table_place _ _ _ _ _ _ _ _ (hH4.blk (i := 0) rfl) ((hV.words).mono (hH4.kz KN.le (fun x hx => (mT (List.mem_append_left _ hx))))).sl) (run_call2 call40 rfl rfl) <| fun w5 hH6 => aI rfl <| aI rfl <| RL.nil <| CW.seq <| SR <| mI rfl <| V (run_lss rfl rfl) <| mB rfl <| RL.splitP (dj := 23) rfl (fun h8 => ?_) (fun h8 => ?_)
 ·refine gF rfl (bT h8) <| gF rfl (bT h8) <| V (run_pickT (bT h8) (v := B true) rfl) <| RL.nil <| CW.condT rfl <| SR <| mU rfl <| mU rfl <| V (run_orU rfl rfl) <| aU rfl <| RL.nil <| CW.ret <| out1 Tryd.results33 (v := U (raiseV r a c)) (Eq.trans rfl (congrArg U (by exact raise_out (by omega)))) ⟨rfl, _, .inr ⟨v1, v2, rs, Zr, rfl, hV⟩, hH6⟩
 ·refine gT rfl (bF h8) <| mI rfl <| gT rfl (bF h8) <| V (run_lss rfl rfl) <| V (run_pickF (bF h8) (v := B _) rfl) <| RL.nil <| CW.condP rfl (fun h10 => ?_) (fun h10 => ?_)
  ·refine SR <| mU rfl <| mU rfl <| V (run_orU rfl rfl) <| aU rfl <| RL.nil <| CW.ret <| out1 Tryd.results33 (v := U (raiseV r a c)) (Eq.trans rfl (congrArg U (by exact raise_out (by omega)))) ⟨rfl, _, .inr ⟨v1, v2, rs, Zr, rfl, hV⟩, hH6⟩
  ·refine CW.skip <| SR <| have hrw := (hV.row (i := plW r a) (by omega)).1; have hrl : (rs.getD (plW r a).toNat ru0).l.length = (pts r).toNat := (by rw [hrw, rowJ_len]); vm (v := Pn _ _) rfl <| V (run_nilCheck rfl) <| V (fA underlying97 69 rfl sizeOf95 rfl) <| V (run_ld underlying95 rfl rfl (hH6.cell (i := 0) rfl tab_j)) <| mI rfl <| V (run_indexAddrS ((hV.joins).mono (hH6.kz KN.le (fun x hx => (mT (List.mem_append_left _ hx))))).sl underlying95 sizeOf94 rfl rfl (by omega)) <| V (run_ld underlying94 rfl rfl (((hV.joins).mono (hH6.kz KN.le (fun x hx => (mT (List.mem_append_left _ hx))))).sl.cell _ _ (rus_at (by omega)))) <| mI rfl <| V (run_indexAddrS (((hV.row (by omega)).2).mono (hH6.kz KN.le (fun x hx => (mT (List.mem_append_left _ hx))))).sl underlying94 sizeOf41 rfl rfl (by omega)) <| V (run_ld underlying41 rfl rfl ((((hV.row (by omega)).2).mono (hH6.kz KN.le (fun x hx => (mT (List.mem_append_left _ hx))))).sl.atU (by omega) (by omega))) <| aU rfl <| RL.nil <| CW.ret <| out1 Tryd.results33 (v := U (raiseV r a c)) (Eq.trans rfl (congrArg U (by rw [hrw, rowJ_at (by omega)]; exact raise_in (by omega)))) ⟨rfl, _, .inr ⟨v1, v2, rs, Zr, rfl, hV⟩, hH6⟩
theorem c_tally_joiner_1 (W0 : World) (B : Nat) (tb : TbM) (tl : List (Nat × Rl)) (Z R : List Ent) (a c : El) (w : World) (hT : Tab W0) (htl : ∀ i, i < 8 → ∀ p, tb i = some p → p ∈ tl) (hB : Kz (Kw W0) R B (.cells (tbL tb).toArray 83 (0, 0))) (hZ : TblZ 97 tl Z) (hH : Hp W0 w (Z ++ R)) : Calls Tryd.prog 32 #[.agg (elC a), .agg (elC c), .pointer (some ⟨B, 0, none⟩)] w (Ret fun u w' => u = .agg (elC (joinTb tb a c)) ∧ ∃ Z', TblZ 97 tl Z' ∧ Hp W0 w' (Z' ++ R)) := by
 refine enter Tryd.func32 rfl Tryd.ntmps32 rfl <| SR <| RL.new rfl hH (f := fun b => (.pointer (some ⟨b, 0, none⟩))) (run_box (v := .agg _) rfl) <| fun b3 w1 hH2 => RL.new rfl hH2 (f := fun b => (.pointer (some ⟨b, 0, none⟩))) (run_box (v := .agg _) rfl) <| fun b6 w4 hH5 => RL.new rfl hH5 (f := fun b => (.pointer (some ⟨b, 0, none⟩))) (run_alloc zero_el) <| fun b9 w7 hH8 => RL.nil <| CW.seq <| SR <| V (run_ldA (cs := tbL tb) underlying83 rfl rfl rfl (rangeAt_cells (hH8.kz (Le.refl _) (fun x hx => (mT (mT (mT (List.mem_append_right _ hx))))) _ _ hB))) <| vm (v := I 0) rfl <| RL.nil <| CW.block <| CW.loop (G := Int × El × (List Ent)) (fun ⟨k, e1, Z1⟩ s' w' => (Fr (6 :: 7 :: (rg 9 25 [])) _ s') ∧ (Hp W0 w' (_ :: _ :: .blk b3 (.cells (elC e1) 43 (0, 0)) :: Z1)) ∧ (s' 9 = I k) ∧ (0 ≤ k) ∧ (k ≤ 8) ∧ (e1 = mixE (joinTb tb a c) a k) ∧ (∃ Zt, Z1 = Zt ++ R ∧ TblZ 97 tl Zt)) (fun ⟨k, e1, Z1⟩ => (8 - k).toNat) ((0, a, (Z ++ R))) ⟨Fr.refl _ _, hH8, rfl, (by omega), (by omega), (mix_zero _ _).symm, ⟨_, rfl, hZ⟩⟩ <| ?_
 rintro ⟨k, e1, Z1⟩ sg10 w10 ⟨fr10, hH10, e9_10, h0, hk, hr, hS⟩
 have e3_10 := fr10.pp 3 rfl rfl
 have e4_10 := fr10.pp 4 rfl rfl
 have e5_10 := fr10.pp 5 rfl rfl
 have e8_10 := fr10.aa 8 rfl rfl
 obtain ⟨Zt, rfl, hZt⟩ := hS
 refine SR <| V (run_lss e9_10 rfl) <| RL.nil <| CW.seq <| CW.condP rfl (fun h12 => ?_) (fun h12 => ?_)
 ·refine CW.skip <| CW.seq <| CW.block <| SR <| vm e9_10 <| V (run_indexA underlying83 isAgg82 sizeOf82 e8_10 e9_10 (by omega) (tbL_ix _ (by omega))) <| aI rfl <| ?_
  refine V (run_assign (by conv => lhs; whnf)) ?_
  refine RL.nil <| CW.seq <| SR <| ?_
  refine V (run_move (by conv => lhs; whnf)) ?_
  refine V (run_neqTb underlying82 rfl rfl) <| RL.nil <| CW.cond rfl (fun h14 => ?_) (fun h14 => ?_)
  ·refine CW.seq <| CW.regionS (by kernel_rfl) hH10 (sP (sP (sQ (sA sR)))) <| fun w15 hH16 => have zh16 := hH16.sub (sP (sP (sQ (sA sR)))); AQ 0 rfl zh16 (mV (I _) rfl) <| ?_
   refine AQ 1 rfl zh16 (run_move (by conv => lhs; whnf)) ?_
   refine AQ 2 rfl zh16 (mV (I _) rfl) <| AQ 3 rfl zh16 (run_indexAddrA underlying43 sizeOf41 e3_10 rfl (by omega)) <| AQ 5 rfl zh16 (mV (I _) rfl) <| AQ 6 rfl zh16 (run_indexAddrA underlying43 sizeOf41 e4_10 rfl (by omega)) <| AT 7 rfl zh16 (fun w hS => run_ld underlying41 rfl rfl (hS.cell (i := 1) rfl (elC_at _ (by omega)))) <| A1 4 <| AO.read rfl gnone rfl hH16 (sP (sP (sQ (sA sR)))) (run_ld underlying41 rfl rfl (hH16.cell (i := 2) rfl (elC_at _ (by omega)))) <| A1 8 <| ?_
   obtain ⟨⟨bi, ri⟩, hi⟩ := Option.isSome_iff_exists.1 ‹(tb k.toNat).isSome = true›
   obtain ⟨z27, Y22, hz23, hp24, hq25⟩ := hZt.pick (htl _ (by omega) _ hi)
   refine AO.callT rfl gnone rfl (c_tally_table_raise W0 bi ri z27 (Y22 ++ ([_, _, _] ++ R)) _ _ _ hT hz23 (Hp.pickT (A := [_, _, _]) hH16 hp24)) (run_call3 call33 (congrArg ptrT hi) rfl rfl) (fun u w' ⟨_, z', hz', h⟩ => let ⟨Z', _, q2⟩ := hq25 z' hz'; Hp.sub (L := _ :: _ :: _ :: (Z' ++ R)) (Hp.backT (A := [_, _, _]) h q2) (sP (sP (sQ (sA sR))))) ?_
   rintro _ w26 ⟨rfl, z34, hy28, h29⟩
   obtain ⟨Zn30, hZ31, hk32⟩ := hq25 z34 hy28
   have hH33 : Hp _ w26 (_ :: _ :: _ :: (Zn30 ++ R)) := Hp.backT (A := [_, _, _]) h29 hk32
   refine AQ 9 rfl (hH33.sub (sP (sP (sQ (sA sR))))) (run_indexAddrA underlying43 sizeOf41 e3_10 rfl (by omega)) <| A1 10 <| AO.set rfl gnone hH33 (j := 2) rfl (sP (sP (sQ (sA sR)))) (run_st rfl rfl (v := U _) rfl rfl rfl (hH33.blk (i := 2) rfl) (by rw [elC_size]; omega)) <| fun w37 hH38 => ?_
   simp only [z2] at hH38
   rw [elC_put] at hH38
   refine AD <| CW.exit (id := 1) rfl <| CW.region <| V (run_add e9_10 rfl (by omega)) <| mI rfl <| RL.nil <| ?_
   refine ⟨(k + 1, _, (Zn30 ++ R)), ?_, fr10.u4.u4.u4.u4.u1.u1.u1, hH38, (congrArg I (by rfl)), ?_, ?_, ?_, ?_⟩
   ·((try dsimp only); omega)
   ·omega
   ·omega
   ·exact jt_yes hr h0 hi
   ·exact ⟨_, rfl, hZ31⟩
  ·refine CW.skip <| CW.regionS (by kernel_rfl) hH10 (sP (sP (sQ sR))) <| fun w39 hH40 => have zh40 := hH40.sub (sP (sP (sQ sR))); AQ 0 rfl zh40 (mV (I _) rfl) <| AQ 1 rfl zh40 (run_indexAddrA underlying43 sizeOf41 e3_10 rfl (by omega)) <| AQ 3 rfl zh40 (mV (I _) rfl) <| AQ 4 rfl zh40 (run_indexAddrA underlying43 sizeOf41 e4_10 rfl (by omega)) <| AT 5 rfl zh40 (fun w hS => run_ld underlying41 rfl rfl (hS.cell (i := 1) rfl (elC_at _ (by omega)))) <| A1 2 <| AO.read rfl gnone rfl hH40 (sP (sP (sQ sR))) (run_ld underlying41 rfl rfl (hH40.cell (i := 2) rfl (elC_at _ (by omega)))) <| AQ 6 rfl zh40 (run_orU rfl rfl) <| AQ 7 rfl zh40 (run_indexAddrA underlying43 sizeOf41 e3_10 rfl (by omega)) <| A1 8 <| AO.set rfl gnone hH40 (j := 2) rfl (sP (sP (sQ sR))) (run_st rfl rfl (v := U _) rfl rfl rfl (hH40.blk (i := 2) rfl) (by rw [elC_size]; omega)) <| fun w45 hH46 => ?_
   simp only [z2] at hH46
   rw [elC_put] at hH46
   refine AD <| CW.region <| V (run_add e9_10 rfl (by omega)) <| mI rfl <| RL.nil <| ?_
   refine ⟨(k + 1, _, (Zt ++ R)), ?_, fr10.u4.u4.u4.u4.u1, hH46, (congrArg I (by rfl)), ?_, ?_, ?_, ?_⟩
   ·((try dsimp only); omega)
   ·omega
   ·omega
   ·exact jt_no hr h0 ‹(tb k.toNat).isSome = false›
   ·exact ⟨_, rfl, hZt⟩
 ·refine CW.exit (id := 0) rfl <| SR <| V (run_ldEl underlying43 rfl rfl e3_10 (hH10.blk (i := 2) rfl)) <| RL.set hH10 (i := 0) rfl (run_stEl rfl e5_10 rfl (hH10.blk (i := 0) rfl)) <| fun w47 hH48 => ?_
  simp only [z2] at hH48
  refine RL.nil <| CW.ret <| outCg Tryd.results32 e5_10 hH48 (i := 0) rfl underlying43 rfl (by rw [elC_size]; rfl) ⟨congrArg Value.agg (elC_congr (by rw [hr]; exact mix_all ‹_›)), Zt, hZt, hH48.sub (sQ (sQ (sQ sR)))⟩
theorem c_tally_joiner (s : Shp) (w : World) (hs : ShpV (Kw w) s) : Calls Tryd.prog 17 #[.agg (shpC s)] w (Ret fun u w' => ∃ (B : Nat) (tb : TbM) (tl : List (Nat × Rl)) (Zt : List Ent), u = .func (.func 32) #[] #[.pointer (some ⟨B, 0, none⟩)] ∧ TbOf s.sh tb ∧ (∀ i, i < 8 → ∀ p, tb i = some p → p ∈ tl) ∧ TblZ 97 tl Zt ∧ Hp w w' (Zt ++ [.blk B (.cells (tbL tb).toArray 83 (0, 0))])) := by
 have hm1 := hs.facs.small
 unfold maxLen at hm1
 refine enter Tryd.func17 rfl Tryd.ntmps17 rfl <| have hH := Hp.start w; SR <| RL.new rfl hH (f := fun b => (.pointer (some ⟨b, 0, none⟩))) (run_box (v := .agg _) rfl) <| fun b3 w1 hH2 => va (v := .nilFunc) rfl <| RL.nil <| SR <| RL.new rfl hH2 (f := fun b => (.pointer (some ⟨b, 0, none⟩))) (run_alloc Tryd.zeroValue83) <| fun b6 w4 hH5 => RL.nil <| CW.seq <| SR <| V (fA underlying24 1 rfl sizeOf22 rfl) <| V (run_ld underlying22 rfl rfl (hH5.cell (i := 1) rfl rfl)) <| V (run_lenSl (hs.facs.sl.hp hH5) rfl underlying22 rfl) <| vm (v := I 0) rfl <| RL.nil <| CW.block <| CW.loop (G := Int × (List (Nat × Rl)) × TbM × (List Ent)) (fun ⟨k, tl, tb, Z⟩ s' w' => (Fr (4 :: 5 :: (rg 9 19 [])) _ s') ∧ (Hp w w' (.blk b6 (.cells ((tbL tb).toArray) 83 (0, 0)) :: _ :: Z)) ∧ (s' 9 = I k) ∧ (0 ≤ k) ∧ (k ≤ s.facs.length) ∧ (TbTo s.sh k tb) ∧ (∀ i, i < 8 → ∀ p, tb i = some p → p ∈ tl) ∧ (TblZ 97 tl Z)) (fun ⟨k, tl, tb, Z⟩ => (s.facs.length - k).toNat) ((0, [], tb0, [])) ⟨Fr.refl _ _, hH5, rfl, (by omega), (by omega), TbTo.start _, (fun i _ p hp => (by cases hp)), rfl⟩ <| ?_
 rintro ⟨k, tl, tb, Z⟩ sg7 w7 ⟨fr7, hH7, e9_7, h0, hk, hTo, htl, hZ⟩
 have e3_7 := fr7.pp 3 rfl rfl
 have e7_7 := (fr7 7 rfl).trans (by conv => lhs; whnf)
 have e8_7 := fr7.ii 8 rfl rfl
 refine SR <| V (run_lss e9_7 e8_7) <| RL.nil <| CW.seq <| CW.condP rfl (fun h9 => ?_) (fun h9 => ?_)
 ·refine CW.skip <| CW.seq <| CW.block <| SR <| vm e9_7 <| V (run_indexAddrS (hs.facs.sl.hp hH7) underlying22 sizeOf58 e7_7 e9_7 (by omega)) <| V (run_ldE (dv := fac0) facL_len (hs.facs.sl.hp hH7) underlying58 rfl rfl rfl (by omega)) <| RL.new rfl hH7 (f := fun b => (.pointer (some ⟨b, 0, none⟩))) (run_alloc zero_fac) <| fun b12 w10 hH11 => aI rfl <| RL.set hH11 (i := 0) rfl (run_stFac (hs.at (by omega) (by omega)) rfl rfl rfl (hH11.blk (i := 0) rfl)) <| fun w13 hH14 => ?_
  simp only [z2] at hH14
  refine RL.nil <| SR <| mI rfl <| V (run_lss rfl rfl) <| mB rfl <| RL.splitP (dj := 16) rfl (fun h16 => ?_) (fun h16 => ?_)
  ·refine gT rfl (bT h16) <| V (fA underlying58 0 rfl sizeOf3 rfl) <| gT rfl (bT h16) <| V (run_ld underlying3 rfl rfl (hH14.cell (i := 0) rfl (v := I _) rfl)) <| gT rfl (bT h16) <| V (run_eql rfl rfl) <| V (run_pickT (bT h16) (v := B _) rfl) <| RL.nil <| CW.condP rfl (fun h18 => ?_) (fun h18 => ?_)
   ·refine CW.region <| mI rfl <| V (fA underlying58 2 rfl sizeOf56 rfl) <| V (run_ldBR underlying56 rfl rfl rfl (hH14.blk (i := 0) rfl)) <| V (run_bld (vs := [(0, .agg (relC _))]) rfl (built_tab _)) <| RL.new rfl hH14 (f := fun b => (.pointer (some ⟨b, 0, none⟩))) (run_box (v := .agg _) rfl) <| fun b21 w19 hH20 => V (run_indexAddrA underlying83 sizeOf82 e3_7 rfl (by omega)) <| RL.set hH20 (i := 2) rfl (run_st rfl rfl (v := Pn _ _) rfl rfl rfl (hH20.blk (i := 2) rfl) (by rw [List.size_toArray, tbL_len]; omega)) <| fun w22 hH23 => ?_
    simp only [z2] at hH23
    rw [tbL_put2 tb (s.facs.getD k.toNat fac0).rel] at hH23
    have hH24 : Hp _ w22 (_ :: _ :: _ :: ([Ent.blk b21 (.cells (tabL (s.facs.getD k.toNat fac0).rel 0 0 (.slice none 0 0) (.slice none 0 0)).toArray 97 (0, 0))] ++ Z)) := Hp.zin (Z := [Ent.blk b21 (.cells (tabL (s.facs.getD k.toNat fac0).rel 0 0 (.slice none 0 0) (.slice none 0 0)).toArray 97 (0, 0))]) (L := [_, _, _]) (L' := Z) hH23
    refine RL.nil <| CW.region <| V (run_add e9_7 rfl (by omega)) <| mI rfl <| RL.nil <| ?_
    refine ⟨(k + 1, ((b21, (s.facs.getD k.toNat fac0).rel) :: tl), putT tb k.toNat (b21, (s.facs.getD k.toNat fac0).rel), ([Ent.blk b21 (.cells (tabL (s.facs.getD k.toNat fac0).rel 0 0 (.slice none 0 0) (.slice none 0 0)).toArray 97 (0, 0))] ++ Z)), ?_, fr7.u4.u4.u4.u4.u4.u1, (Hp.conv (hH24.sub (sQ sR)) (by rfl)), (congrArg I (by rfl)), ?_, ?_, ?_, ?_, ?_⟩
    ·((try dsimp only); omega)
    ·omega
    ·omega
    ·exact hTo.put h0 (by rw [sh_len]; omega) (by rw [sh_get]; assumption) (by rw [sh_get]; rfl)
    ·exact mem_put htl
    ·exact TblZ.cons hZ
   ·refine CW.skip <| CW.region <| V (run_add e9_7 rfl (by omega)) <| mI rfl <| RL.nil <| ?_
    refine ⟨(k + 1, tl, tb, Z), ?_, fr7.u4.u4.u4.u1.u1.u1, (Hp.conv (hH14.sub (sQ sR)) (by rfl)), (congrArg I (by rfl)), ?_, ?_, ?_, ?_, ?_⟩
    ·((try dsimp only); omega)
    ·omega
    ·omega
    ·exact hTo.skip h0 (by rw [sh_get]; intro q; have q2 : (s.facs.getD k.toNat fac0).kind = 4 := q.2; omega)
    ·exact htl
    ·exact hZ
  ·refine gF rfl (bF h16) <| gF rfl (bF h16) <| gF rfl (bF h16) <| V (run_pickF (bF h16) (v := B false) rfl) <| RL.nil <| CW.condF rfl <| CW.skip <| CW.region <| V (run_add e9_7 rfl (by omega)) <| mI rfl <| RL.nil <| ?_
   refine ⟨(k + 1, tl, tb, Z), ?_, fr7.u4.u4.u4.u1.u1.u1, (Hp.conv (hH14.sub (sQ sR)) (by rfl)), (congrArg I (by rfl)), ?_, ?_, ?_, ?_, ?_⟩
   ·((try dsimp only); omega)
   ·omega
   ·omega
   ·exact hTo.skip h0 (by rw [sh_get]; intro q; have q2 : (s.facs.getD k.toNat fac0).kind = 4 := q.2; omega)
   ·exact htl
   ·exact hZ
 ·refine CW.exit (id := 0) rfl <| SR <| V (run_mkF1 e3_7) <| va (v := .func _ _ _) rfl <| RL.nil <| CW.ret <| out1 Tryd.results17 (v := .func (.func 32) #[] #[.pointer (some ⟨b6, 0, none⟩)]) rfl ⟨b6, tb, tl, Z, rfl, hTo.all (by rw [sh_len]; omega), htl, hZ, (hH7.sub (sP (sQ sR))).perm (List.perm_append_comm (l₁ := [_]))⟩
theorem c_sync_atomic_Int64_Add (W0 : World) (m off : Nat) (C : Array Value) (te : TypeId) (x : Int) (L : List Ent) (hx : -9000000000000000000 ≤ x ∧ x ≤ 9000000000000000000) (hc : C[off]? = some (I x)) (w : World) (hH : Hp W0 w (.blk m (.cells C te (0, 0)) :: L)) : Calls Tryd.prog 20 #[.pointer (some ⟨m, off, none⟩), I 1] w (Ret fun u w' => u = I (x + 1) ∧ Hp W0 w' (.blk m (.cells (C.setIfInBounds off (I (x + 1))) te (0, 0)) :: L)) := by
 refine enter Tryd.func20 rfl Tryd.ntmps20 rfl <| SR <| va (v := I 0) rfl <| RL.nil <| SR <| vm (v := Pn _ _) rfl <| V (run_nilCheck rfl) <| V (fA underlying63 0 rfl sizeOf2 rfl) <| mI rfl <| V (run_callN2 (run_call_add (P := Tryd.prog) Tryd.func34 (by kernel_rfl) (by kernel_rfl) (by kernel_rfl) .i64 (by kernel_rfl) (hH.cell (i := 0) rfl hc) (hH.fz (i := 0) rfl) (add_i64 (by omega))) rfl rfl) <| have hH2 := hH.setCell (i := 0) (b := m) (o := off) (v := I (x + 1)) rfl; ?_
 simp only [List.set_cons_zero] at hH2
 refine aI rfl <| RL.nil <| CW.ret <| out1 Tryd.results20 (v := I (x + 1)) rfl ⟨rfl, hH2⟩
theorem c_sync_atomic_Int64_Load (m off : Nat) (C : Array Value) (te : TypeId) (x : Int) (hc : C[off]? = some (I x)) (w : World) (hb : w.heap[m]? = some (.cells C te (0, 0))) : Calls Tryd.prog 27 #[.pointer (some ⟨m, off, none⟩)] w (Pure (I x) w) := by
 refine enter Tryd.func27 rfl Tryd.ntmps27 rfl <| have hH := Hp.start w; SR <| va (v := I 0) rfl <| RL.nil <| SR <| vm (v := Pn _ _) rfl <| V (run_nilCheck rfl) <| V (fA underlying63 0 rfl sizeOf2 rfl) <| V (run_callN1 (run_call_load (P := Tryd.prog) Tryd.func35 (by kernel_rfl) (by kernel_rfl) (by kernel_rfl) .i64 (by kernel_rfl) (cellK hb hc)) rfl) <| aI rfl <| RL.nil <| CW.ret <| outP1 Tryd.results27 (congrArg I ?_) hH.below
 rfl
theorem c_tally_Meter_counts (m : Nat) (c : Cn) (w : World) (hb : w.heap[m]? = some (.cells #[B true, I c.e, I c.l, I c.j] 65 (0, 0))) : Calls Tryd.prog 19 #[.pointer (some ⟨m, 0, none⟩)] w (Pure (B true) w) := by
 refine enter Tryd.func19 rfl Tryd.ntmps19 rfl <| have hH := Hp.start w; SR <| va (v := B false) rfl <| RL.nil <| SR <| vm (v := Pn _ _) rfl <| V (run_neqTb (o := some (_, Rl.none)) underlying29 rfl rfl) <| mB rfl <| gT rfl rfl <| vm (v := Pn _ _) rfl <| gT rfl rfl <| V (run_nilCheck rfl) <| gT rfl rfl <| V (fA underlying65 0 rfl sizeOf4 rfl) <| gT rfl rfl <| V (run_ld underlying4 rfl rfl (hH.extCell hb (v := B _) rfl)) <| V (run_pickT rfl (v := B _) rfl) <| aB rfl <| RL.nil <| CW.ret <| outP1 Tryd.results19 (congrArg B ?_) hH.below
 rfl
theorem c_tally_Meter_Read (m : Nat) (c : Cn) (w : World) (hb : w.heap[m]? = some (.cells #[B true, I c.e, I c.l, I c.j] 65 (0, 0))) : Calls Tryd.prog 12 #[.pointer (some ⟨m, 0, none⟩)] w (Pure (.agg #[I c.e, I c.l, I c.j]) w) := by
 refine enter Tryd.func12 rfl Tryd.ntmps12 rfl <| have hH := Hp.start w; SR <| RL.new rfl hH (f := fun b => (.pointer (some ⟨b, 0, none⟩))) (run_alloc Tryd.zeroValue50) <| fun b3 w1 hH2 => RL.nil <| CW.seq <| SR <| vm (v := Pn _ _) rfl <| RL.callP rfl hH2 (c_tally_Meter_counts _ _ _ (hH2.ext hb)) (run_call1 call19 rfl) <| fun w4 hH5 => V (run_not rfl) <| RL.nil <| CW.condF rfl <| CW.skip <| CW.seq <| CW.regionS (by kernel_rfl) hH5 (sQ sR) <| fun w7 hH8 => have zh8 := hH8.sub (sQ sR); AQ 0 rfl zh8 (mV (Pn _ _) rfl) <| AQ 1 rfl zh8 (run_nilCheck rfl) <| AQ 2 rfl zh8 (fA underlying65 1 rfl sizeOf63 rfl) <| AQ 4 rfl zh8 (mV (Pn _ _) rfl) <| AQ 5 rfl zh8 (run_nilCheck rfl) <| AQ 6 rfl zh8 (fA underlying65 2 rfl sizeOf63 rfl) <| AQ 8 rfl zh8 (mV (Pn _ _) rfl) <| AQ 9 rfl zh8 (run_nilCheck rfl) <| AQ 10 rfl zh8 (fA underlying65 3 rfl sizeOf63 rfl) <| A1 3 <| AO.callP rfl gnone rfl hH8 (sQ sR) (c_sync_atomic_Int64_Load _ 1 _ _ c.e rfl _ (hH8.ext hb)) (run_call1 call27 rfl) <| fun w9 hH10 => A1 7 <| AO.callP rfl gnone rfl hH10 (sQ sR) (c_sync_atomic_Int64_Load _ 2 _ _ c.l rfl _ (hH10.ext hb)) (run_call1 call27 rfl) <| fun w11 hH12 => A1 11 <| AO.callP rfl gnone rfl hH12 (sQ sR) (c_sync_atomic_Int64_Load _ 3 _ _ c.j rfl _ (hH12.ext hb)) (run_call1 call27 rfl) <| fun w13 hH14 => AQ 12 rfl (hH14.sub (sQ sR)) (run_bld (vs := [(0, I _), (1, I _), (2, I _)]) rfl (built_cnt _ _ _)) <| A1 13 <| AO.set rfl gnone hH14 (j := 0) rfl (sQ sR) (run_stW rfl rfl rfl (by simp [Value.oneCell']) (hH14.blk (i := 0) rfl) rfl) <| fun w17 hH18 => ?_
 simp only [z2] at hH18
 refine AD <| CW.ret <| outCg Tryd.results12 rfl hH18 (i := 0) rfl underlying50 rfl rfl ⟨?_, hH18.below⟩
 rfl
theorem c_tally_New  (w : World) : Calls Tryd.prog 7 #[] w (Ret fun u w' => ∃ m, u = pt m ∧ Hp w w' [blkM TX m cn0]) := by
 refine enter Tryd.func7 rfl Tryd.ntmps7 rfl <| have hH := Hp.start w; SR <| va (v := .pointer none) rfl <| RL.nil <| SR <| V (run_bld (vs := [(0, B true)]) rfl built_met) <| RL.new rfl hH (f := fun b => (.pointer (some ⟨b, 0, none⟩))) (run_box (v := .agg _) rfl) <| fun b3 w1 hH2 => va (v := Pn _ _) rfl <| RL.nil <| CW.ret <| out1 Tryd.results7 (v := pt b3) rfl ⟨b3, rfl, hH2⟩
theorem c_tally_Meter_Wrap_2_1 (m : Nat) (w : World) : Calls Tryd.prog 22 #[.pointer (some ⟨m, 0, none⟩)] w (Pure (.pointer (some ⟨m, 1, none⟩)) w) := by
 refine enter Tryd.func22 rfl Tryd.ntmps22 rfl <| have hH := Hp.start w; SR <| va (v := .pointer none) rfl <| RL.nil <| SR <| vm (v := Pn _ _) rfl <| V (run_nilCheck rfl) <| V (fA underlying65 1 rfl sizeOf63 rfl) <| va (v := Pn _ _) rfl <| RL.nil <| CW.ret <| outP1 Tryd.results22 ?_ hH.below
 rfl
theorem c_tally_Meter_Wrap_3_1 (m : Nat) (w : World) : Calls Tryd.prog 24 #[.pointer (some ⟨m, 0, none⟩)] w (Pure (.pointer (some ⟨m, 2, none⟩)) w) := by
 refine enter Tryd.func24 rfl Tryd.ntmps24 rfl <| have hH := Hp.start w; SR <| va (v := .pointer none) rfl <| RL.nil <| SR <| vm (v := Pn _ _) rfl <| V (run_nilCheck rfl) <| V (fA underlying65 2 rfl sizeOf63 rfl) <| va (v := Pn _ _) rfl <| RL.nil <| CW.ret <| outP1 Tryd.results24 ?_ hH.below
 rfl
theorem c_tally_Meter_Wrap_4_1 (m : Nat) (w : World) : Calls Tryd.prog 26 #[.pointer (some ⟨m, 0, none⟩)] w (Pure (.pointer (some ⟨m, 3, none⟩)) w) := by
 refine enter Tryd.func26 rfl Tryd.ntmps26 rfl <| have hH := Hp.start w; SR <| va (v := .pointer none) rfl <| RL.nil <| SR <| vm (v := Pn _ _) rfl <| V (run_nilCheck rfl) <| V (fA underlying65 3 rfl sizeOf63 rfl) <| va (v := Pn _ _) rfl <| RL.nil <| CW.ret <| outP1 Tryd.results26 ?_ hH.below
 rfl
theorem c_tick_e (W0 : World) (b2 m : Nat) (c : Cn) (L : List Ent) (hc : c.ok) (w : World) (hB : Kz (Kw W0) L b2 (.cells #[pt m] 29 (0, 0))) (hH : Hp W0 w (.blk m (.cells #[B true, I c.e, I c.l, I c.j] 65 (0, 0)) :: L)) : Calls Tryd.prog 18 #[.func (.func 22) #[] #[], .pointer (some ⟨b2, 0, none⟩)] w (Ret fun u w' => u = .tuple #[] ∧ Hp W0 w' (blkM TX m (Kd.e.up c) :: L)) := by
 unfold Cn.ok at hc
 refine enter Tryd.func18 rfl Tryd.ntmps18 rfl <| SR <| V (run_ld underlying29 rfl rfl (cellK (hH.kz (Le.refl _) (fun x hx => (mT hx)) _ _ hB) (v := Pn _ _) rfl)) <| RL.callP rfl hH (c_tally_Meter_counts _ _ _ (hH.blk (i := 0) rfl)) (run_call1 call19 rfl) <| fun w1 hH2 => RL.nil <| CW.condT rfl <| CW.region <| vm (v := .func _ _ _) rfl <| V (run_ld underlying29 rfl rfl (cellK (hH2.kz (Le.refl _) (fun x hx => (mT hx)) _ _ hB) (v := Pn _ _) rfl)) <| RL.callP rfl hH2 (c_tally_Meter_Wrap_2_1 _ _) (run_callC1 call22 (cs := []) rfl rfl) <| fun w4 hH5 => RL.callT rfl (c_sync_atomic_Int64_Add W0 m 1 _ _ c.e L (by omega) rfl _ hH5) (run_call2 call20 rfl rfl) <| ?_
 rintro _ w6 ⟨rfl, hH7⟩
 refine RL.nil <| out0 Tryd.results18 ⟨rfl, hH7⟩
theorem c_tick_l (W0 : World) (b2 m : Nat) (c : Cn) (L : List Ent) (hc : c.ok) (w : World) (hB : Kz (Kw W0) L b2 (.cells #[pt m] 29 (0, 0))) (hH : Hp W0 w (.blk m (.cells #[B true, I c.e, I c.l, I c.j] 65 (0, 0)) :: L)) : Calls Tryd.prog 18 #[.func (.func 24) #[] #[], .pointer (some ⟨b2, 0, none⟩)] w (Ret fun u w' => u = .tuple #[] ∧ Hp W0 w' (blkM TX m (Kd.l.up c) :: L)) := by
 unfold Cn.ok at hc
 refine enter Tryd.func18 rfl Tryd.ntmps18 rfl <| SR <| V (run_ld underlying29 rfl rfl (cellK (hH.kz (Le.refl _) (fun x hx => (mT hx)) _ _ hB) (v := Pn _ _) rfl)) <| RL.callP rfl hH (c_tally_Meter_counts _ _ _ (hH.blk (i := 0) rfl)) (run_call1 call19 rfl) <| fun w1 hH2 => RL.nil <| CW.condT rfl <| CW.region <| vm (v := .func _ _ _) rfl <| V (run_ld underlying29 rfl rfl (cellK (hH2.kz (Le.refl _) (fun x hx => (mT hx)) _ _ hB) (v := Pn _ _) rfl)) <| RL.callP rfl hH2 (c_tally_Meter_Wrap_3_1 _ _) (run_callC1 call24 (cs := []) rfl rfl) <| fun w4 hH5 => RL.callT rfl (c_sync_atomic_Int64_Add W0 m 2 _ _ c.l L (by omega) rfl _ hH5) (run_call2 call20 rfl rfl) <| ?_
 rintro _ w6 ⟨rfl, hH7⟩
 refine RL.nil <| out0 Tryd.results18 ⟨rfl, hH7⟩
theorem c_tick_j (W0 : World) (b2 m : Nat) (c : Cn) (L : List Ent) (hc : c.ok) (w : World) (hB : Kz (Kw W0) L b2 (.cells #[pt m] 29 (0, 0))) (hH : Hp W0 w (.blk m (.cells #[B true, I c.e, I c.l, I c.j] 65 (0, 0)) :: L)) : Calls Tryd.prog 18 #[.func (.func 26) #[] #[], .pointer (some ⟨b2, 0, none⟩)] w (Ret fun u w' => u = .tuple #[] ∧ Hp W0 w' (blkM TX m (Kd.j.up c) :: L)) := by
 unfold Cn.ok at hc
 refine enter Tryd.func18 rfl Tryd.ntmps18 rfl <| SR <| V (run_ld underlying29 rfl rfl (cellK (hH.kz (Le.refl _) (fun x hx => (mT hx)) _ _ hB) (v := Pn _ _) rfl)) <| RL.callP rfl hH (c_tally_Meter_counts _ _ _ (hH.blk (i := 0) rfl)) (run_call1 call19 rfl) <| fun w1 hH2 => RL.nil <| CW.condT rfl <| CW.region <| vm (v := .func _ _ _) rfl <| V (run_ld underlying29 rfl rfl (cellK (hH2.kz (Le.refl _) (fun x hx => (mT hx)) _ _ hB) (v := Pn _ _) rfl)) <| RL.callP rfl hH2 (c_tally_Meter_Wrap_4_1 _ _) (run_callC1 call26 (cs := []) rfl rfl) <| fun w4 hH5 => RL.callT rfl (c_sync_atomic_Int64_Add W0 m 3 _ _ c.j L (by omega) rfl _ hH5) (run_call2 call20 rfl rfl) <| ?_
 rintro _ w6 ⟨rfl, hH7⟩
 refine RL.nil <| out0 Tryd.results18 ⟨rfl, hH7⟩
theorem c_tally_Meter_Wrap_2 (W0 : World) (b5 b3 b2 m : Nat) (c : Cn) (fe : FuncId) (ae : List Value) (x1 x2 : Value) (v u : Value) (ee : El) (bb : Bool) (Y R : List Ent) (Q : List Ent → Prop) (hc : c.ok) (w : World) (hfe : ∀ args w, (callFunc fe args).run Tryd.prog w = .ok (.enter fe args) w) (h5 : Kz (Kw W0) R b5 (.cells #[fnV 18 #[pt b2]] 73 (0, 0))) (h2 : Kz (Kw W0) R b2 (.cells #[pt m] 29 (0, 0))) (h3 : Kz (Kw W0) R b3 (.cells #[fnV fe ae.toArray, x1, x2] 35 (0, 0))) (hin : ∀ (w1 : World) (A : List Ent), Hp W0 w1 ((blkM TX m (Kd.e.up c) :: Y) ++ (A ++ R)) → Calls Tryd.prog fe (v :: u :: ae).toArray w1 (Ret fun x w' => x = .tuple #[.agg (elC ee), B bb] ∧ ∃ Z', Q Z' ∧ Hp W0 w' (Z' ++ (A ++ R)))) (hH : Hp W0 w ((blkM TX m c :: Y) ++ R)) : Calls Tryd.prog 21 #[v, u, .pointer (some ⟨b5, 0, none⟩), .pointer (some ⟨b3, 0, none⟩)] w (Ret fun x w' => x = .tuple #[.agg (elC ee), B bb] ∧ ∃ Z', Q Z' ∧ Hp W0 w' (Z' ++ R)) := by
 refine enter Tryd.func21 rfl Tryd.ntmps21 rfl <| SR <| RL.new rfl hH (f := fun b => (.pointer (some ⟨b, 0, none⟩))) (run_alloc zero_el) <| fun b3 w1 hH2 => va (v := B false) rfl <| RL.nil <| SR <| V (run_ld underlying73 rfl rfl (cellK (hH2.kz (Le.refl _) (fun x hx => (mT (mT (List.mem_append_right _ hx)))) _ _ h5) (v := .func _ _ _) rfl)) <| have hF4 := Hp.frontZ (A := [_]) (Zf := [_]) (R := (Y ++ R)) hH2; RL.callT rfl (c_tick_e W0 b2 m c _ hc _ (Le.zz (fun x hx => List.mem_append_right _ (List.mem_append_right _ hx)) _ _ h2) hF4) (run_callC1 call18 (cs := [pt b2]) rfl rfl) <| ?_
 rintro _ w5 ⟨rfl, h6⟩
 have hH7 : Hp _ w5 (_ :: _ :: (Y ++ R)) := Hp.backZ (A := [_]) (Zf := [_]) h6
 refine RL.nil <| CW.seq <| SR <| V (fA underlying35 0 rfl sizeOf31 rfl) <| V (run_ld underlying31 rfl rfl (cellK (hH7.kz (Le.refl _) (fun x hx => (mT (mT (List.mem_append_right _ hx)))) _ _ h3) (v := .func _ _ _) rfl)) <| V (run_eqlF underlying31 rfl rfl) <| RL.nil <| CW.condF rfl <| CW.skip <| SR <| V (fA underlying35 0 rfl sizeOf31 rfl) <| V (run_ld underlying31 rfl rfl (cellK (hH7.kz (Le.refl _) (fun x hx => (mT (mT (List.mem_append_right _ hx)))) _ _ h3) (v := .func _ _ _) rfl)) <| ?_
 refine V (run_move (by conv => lhs; whnf)) ?_
 refine V (run_move (by conv => lhs; whnf)) ?_
 have hF8 := Hp.frontZ (A := [_]) (Zf := _ :: Y) (R := R) hH7
 refine RL.callT rfl (hin _ _ hF8) (run_callC2 hfe (cs := ae) rfl rfl rfl) ?_
 rintro _ w9 ⟨rfl, Z', hq, h10⟩
 have hH11 : Hp _ w9 (_ :: (Z' ++ R)) := Hp.backZ (A := [_]) h10
 refine V (run_extract rfl (v := .agg _) rfl) <| V (run_extract rfl (v := B _) rfl) <| RL.set hH11 (i := 0) rfl (run_stEl rfl rfl rfl (hH11.blk (i := 0) rfl)) <| fun w13 hH14 => ?_
 simp only [z2] at hH14
 refine aB rfl <| RL.nil <| CW.ret <| outCT Tryd.results21 rfl rfl hH14 (i := 0) rfl underlying43 rfl (by rw [elC_size]; rfl) ⟨rfl, Z', hq, hH14.sub (sQ sR)⟩
theorem c_tally_Meter_Wrap_3 (W0 : World) (b5 b3 b2 m : Nat) (c : Cn) (fe : FuncId) (ae : List Value) (x1 x2 : Value) (a b : El) (bb : Bool) (Y R : List Ent) (Q : List Ent → Prop) (hc : c.ok) (w : World) (hfe : ∀ args w, (callFunc fe args).run Tryd.prog w = .ok (.enter fe args) w) (h5 : Kz (Kw W0) R b5 (.cells #[fnV 18 #[pt b2]] 73 (0, 0))) (h2 : Kz (Kw W0) R b2 (.cells #[pt m] 29 (0, 0))) (h3 : Kz (Kw W0) R b3 (.cells #[x1, fnV fe ae.toArray, x2] 35 (0, 0))) (hin : ∀ (w1 : World) (A : List Ent), Hp W0 w1 ((blkM TX m (Kd.l.up c) :: Y) ++ (A ++ R)) → Calls Tryd.prog fe (.agg (elC a) :: .agg (elC b) :: ae).toArray w1 (Ret fun x w' => x = B bb ∧ ∃ Z', Q Z' ∧ Hp W0 w' (Z' ++ (A ++ R)))) (hH : Hp W0 w ((blkM TX m c :: Y) ++ R)) : Calls Tryd.prog 23 #[.agg (elC a), .agg (elC b), .pointer (some ⟨b5, 0, none⟩), .pointer (some ⟨b3, 0, none⟩)] w (Ret fun x w' => x = B bb ∧ ∃ Z', Q Z' ∧ Hp W0 w' (Z' ++ R)) := by
 refine enter Tryd.func23 rfl Tryd.ntmps23 rfl <| SR <| RL.new rfl hH (f := fun b => (.pointer (some ⟨b, 0, none⟩))) (run_box (v := .agg _) rfl) <| fun b3 w1 hH2 => RL.new rfl hH2 (f := fun b => (.pointer (some ⟨b, 0, none⟩))) (run_box (v := .agg _) rfl) <| fun b6 w4 hH5 => va (v := B false) rfl <| RL.nil <| SR <| V (run_ld underlying73 rfl rfl (cellK (hH5.kz (Le.refl _) (fun x hx => (mT (mT (mT (List.mem_append_right _ hx))))) _ _ h5) (v := .func _ _ _) rfl)) <| have hF7 := Hp.frontZ (A := [_, _]) (Zf := [_]) (R := (Y ++ R)) hH5; RL.callT rfl (c_tick_l W0 b2 m c _ hc _ (Le.zz (fun x hx => List.mem_append_right _ (List.mem_append_right _ hx)) _ _ h2) hF7) (run_callC1 call18 (cs := [pt b2]) rfl rfl) <| ?_
 rintro _ w8 ⟨rfl, h9⟩
 have hH10 : Hp _ w8 (_ :: _ :: _ :: (Y ++ R)) := Hp.backZ (A := [_, _]) (Zf := [_]) h9
 refine RL.nil <| SR <| V (fA underlying35 1 rfl sizeOf32 rfl) <| V (run_ld underlying32 rfl rfl (cellK (hH10.kz (Le.refl _) (fun x hx => (mT (mT (mT (List.mem_append_right _ hx))))) _ _ h3) (v := .func _ _ _) rfl)) <| V (run_neqF underlying32 rfl rfl) <| mB rfl <| gT rfl rfl <| V (fA underlying35 1 rfl sizeOf32 rfl) <| gT rfl rfl <| V (run_ld underlying32 rfl rfl (cellK (hH10.kz (Le.refl _) (fun x hx => (mT (mT (mT (List.mem_append_right _ hx))))) _ _ h3) (v := .func _ _ _) rfl)) <| gT rfl rfl <| V (run_ldEl underlying43 rfl rfl rfl (hH10.blk (i := 1) rfl)) <| gT rfl rfl <| V (run_ldEl underlying43 rfl rfl rfl (hH10.blk (i := 0) rfl)) <| gT rfl rfl <| have hF11 := Hp.frontZ (A := [_, _]) (Zf := _ :: Y) (R := R) hH10; RL.callT rfl (hin _ _ hF11) (run_callC2 hfe (cs := ae) rfl rfl rfl) <| ?_
 rintro _ w12 ⟨rfl, Z', hq, h13⟩
 have hH14 : Hp _ w12 (_ :: _ :: (Z' ++ R)) := Hp.backZ (A := [_, _]) h13
 refine V (run_pickT rfl (v := B _) rfl) <| aB rfl <| RL.nil <| CW.ret <| out1 Tryd.results23 (v := B bb) rfl ⟨rfl, Z', hq, hH14.sub (sQ (sQ sR))⟩
theorem c_tally_Meter_Wrap_4 (W0 : World) (b5 b3 b2 m : Nat) (c : Cn) (fe : FuncId) (ae : List Value) (x1 x2 : Value) (a b : El) (ee : El) (Y R : List Ent) (Q : List Ent → Prop) (hc : c.ok) (w : World) (hfe : ∀ args w, (callFunc fe args).run Tryd.prog w = .ok (.enter fe args) w) (h5 : Kz (Kw W0) R b5 (.cells #[fnV 18 #[pt b2]] 73 (0, 0))) (h2 : Kz (Kw W0) R b2 (.cells #[pt m] 29 (0, 0))) (h3 : Kz (Kw W0) R b3 (.cells #[x1, x2, fnV fe ae.toArray] 35 (0, 0))) (hin : ∀ (w1 : World) (A : List Ent), Hp W0 w1 ((blkM TX m (Kd.j.up c) :: Y) ++ (A ++ R)) → Calls Tryd.prog fe (.agg (elC a) :: .agg (elC b) :: ae).toArray w1 (Ret fun x w' => x = .agg (elC ee) ∧ ∃ Z', Q Z' ∧ Hp W0 w' (Z' ++ (A ++ R)))) (hH : Hp W0 w ((blkM TX m c :: Y) ++ R)) : Calls Tryd.prog 25 #[.agg (elC a), .agg (elC b), .pointer (some ⟨b5, 0, none⟩), .pointer (some ⟨b3, 0, none⟩)] w (Ret fun x w' => x = .agg (elC ee) ∧ ∃ Z', Q Z' ∧ Hp W0 w' (Z' ++ R)) := by
 refine enter Tryd.func25 rfl Tryd.ntmps25 rfl <| SR <| RL.new rfl hH (f := fun b => (.pointer (some ⟨b, 0, none⟩))) (run_box (v := .agg _) rfl) <| fun b3 w1 hH2 => RL.new rfl hH2 (f := fun b => (.pointer (some ⟨b, 0, none⟩))) (run_box (v := .agg _) rfl) <| fun b6 w4 hH5 => RL.new rfl hH5 (f := fun b => (.pointer (some ⟨b, 0, none⟩))) (run_alloc zero_el) <| fun b9 w7 hH8 => RL.nil <| SR <| V (run_ld underlying73 rfl rfl (cellK (hH8.kz (Le.refl _) (fun x hx => (mT (mT (mT (mT (List.mem_append_right _ hx)))))) _ _ h5) (v := .func _ _ _) rfl)) <| have hF10 := Hp.frontZ (A := [_, _, _]) (Zf := [_]) (R := (Y ++ R)) hH8; RL.callT rfl (c_tick_j W0 b2 m c _ hc _ (Le.zz (fun x hx => List.mem_append_right _ (List.mem_append_right _ hx)) _ _ h2) hF10) (run_callC1 call18 (cs := [pt b2]) rfl rfl) <| ?_
 rintro _ w11 ⟨rfl, h12⟩
 have hH13 : Hp _ w11 (_ :: _ :: _ :: _ :: (Y ++ R)) := Hp.backZ (A := [_, _, _]) (Zf := [_]) h12
 refine RL.nil <| CW.seq <| SR <| V (fA underlying35 2 rfl sizeOf33 rfl) <| V (run_ld underlying33 rfl rfl (cellK (hH13.kz (Le.refl _) (fun x hx => (mT (mT (mT (mT (List.mem_append_right _ hx)))))) _ _ h3) (v := .func _ _ _) rfl)) <| V (run_eqlF underlying33 rfl rfl) <| RL.nil <| CW.condF rfl <| CW.skip <| SR <| V (fA underlying35 2 rfl sizeOf33 rfl) <| V (run_ld underlying33 rfl rfl (cellK (hH13.kz (Le.refl _) (fun x hx => (mT (mT (mT (mT (List.mem_append_right _ hx)))))) _ _ h3) (v := .func _ _ _) rfl)) <| V (run_ldEl underlying43 rfl rfl rfl (hH13.blk (i := 2) rfl)) <| V (run_ldEl underlying43 rfl rfl rfl (hH13.blk (i := 1) rfl)) <| have hF14 := Hp.frontZ (A := [_, _, _]) (Zf := _ :: Y) (R := R) hH13; RL.callT rfl (hin _ _ hF14) (run_callC2 hfe (cs := ae) rfl rfl rfl) <| ?_
 rintro _ w15 ⟨rfl, Z', hq, h16⟩
 have hH17 : Hp _ w15 (_ :: _ :: _ :: (Z' ++ R)) := Hp.backZ (A := [_, _, _]) h16
 refine RL.set hH17 (i := 0) rfl (run_stEl rfl rfl rfl (hH17.blk (i := 0) rfl)) <| fun w18 hH19 => ?_
 simp only [z2] at hH19
 refine RL.nil <| CW.ret <| outCg Tryd.results25 rfl hH19 (i := 0) rfl underlying43 rfl (by rw [elC_size]; rfl) ⟨rfl, Z', hq, hH19.sub (sQ (sQ (sQ sR)))⟩
theorem c_tally_Of_1 (Bk : Nat) (s : Shp) (v : Value) (l : List InsR) (u : Value) (vs : List El) (hl : l.length ≤ 1000) (w : World) (hs : Sl w v 10 l.length (l.flatMap insL)) (ht : Sl w u 8 vs.length (vs.flatMap elL)) (hsh : ShpV (Kw w) s) (hb : w.heap[Bk]? = some (.cells (shpC s) 24 (0, 0))) (hT : Tab w) : Calls Tryd.prog 14 #[v, u, .pointer (some ⟨Bk, 0, none⟩)] w (Pure (.tuple #[.agg (elC (evalF s.sh l vs).1), B (evalF s.sh l vs).2]) w) := by
 refine enter Tryd.func14 rfl Tryd.ntmps14 rfl <| have hH := Hp.start w; SR <| RL.new rfl hH (f := fun b => (.pointer (some ⟨b, 0, none⟩))) (run_alloc zero_el) <| fun b3 w1 hH2 => va (v := B false) rfl <| RL.nil <| SR <| V (run_ldA (cs := [B _, _]) underlying24 rfl rfl rfl (rangeAt_cells (hH2.ext hb))) <| ?_
 refine V (run_move (by conv => lhs; whnf)) ?_
 refine V (run_move (by conv => lhs; whnf)) ?_
 refine RL.callP rfl hH2 (c_code_Eval _ _ _ _ _ (by omega) _ (hs.hp hH2) (ht.hp hH2) (hsh.mono hH2.kw) (hT.hp hH2)) (run_call3 call15 rfl rfl rfl) <| fun w4 hH5 => V (run_extract rfl (v := .agg _) rfl) <| V (run_extract rfl (v := B _) rfl) <| RL.set hH5 (i := 0) rfl (run_stEl rfl rfl rfl (hH5.blk (i := 0) rfl)) <| fun w7 hH8 => ?_
 simp only [z2] at hH8
 refine aB rfl <| RL.nil <| CW.ret <| outCT Tryd.results14 rfl rfl hH8 (i := 0) rfl underlying43 rfl (by rw [elC_size]; rfl) ⟨?_, hH8.below⟩
 rfl
theorem c_tally_Meter_Wrap (K : Vu) (m : Nat) (d : Wr) (e l j : Value) (w : World) (hK : Le K (Kw w)) (hd : OpsV TX K d e l j) : Calls Tryd.prog 9 #[.pointer (some ⟨m, 0, none⟩), .agg #[e, l, j]] w (PureF K (fun K' u => ∃ f1 f2 f3 a1 a2 a3, u = .agg #[fnV f1 a1, fnV f2 a2, fnV f3 a3] ∧ OpsV TX K' (.wrap m d) (fnV f1 a1) (fnV f2 a2) (fnV f3 a3)) w) := by
 refine enter Tryd.func9 rfl Tryd.ntmps9 rfl <| have hH := Hp.start w; SR <| RL.new rfl hH (f := fun b => (.pointer (some ⟨b, 0, none⟩))) (run_box (v := Pn _ _) rfl) <| fun b3 w1 hH2 => RL.new rfl hH2 (f := fun b => (.pointer (some ⟨b, 0, none⟩))) (run_box (v := .agg _) rfl) <| fun b6 w4 hH5 => RL.new rfl hH5 (f := fun b => (.pointer (some ⟨b, 0, none⟩))) (run_alloc zero_ops) <| fun b9 w7 hH8 => RL.nil <| SR <| ?_
 refine V (run_mkF1 (by conv => lhs; whnf)) ?_
 refine RL.new rfl hH8 (f := fun b => (.pointer (some ⟨b, 0, none⟩))) (run_alloc Tryd.zeroValue73) <| fun b12 w10 hH11 => RL.set hH11 (i := 0) rfl (run_st rfl rfl (v := .func _ _ _) rfl rfl rfl (hH11.blk (i := 0) rfl) (by decide)) <| fun w13 hH14 => ?_
 simp only [z2] at hH14
 refine RL.nil <| SR <| ?_
 refine V (run_mkF2 (by conv => lhs; whnf) (by conv => lhs; whnf)) ?_
 refine V (run_mkF2 (by conv => lhs; whnf) (by conv => lhs; whnf)) ?_
 refine V (run_mkF2 (by conv => lhs; whnf) (by conv => lhs; whnf)) ?_
 refine V (run_bld (vs := [(0, fnV _ _), (1, fnV _ _), (2, fnV _ _)]) rfl (built_ops _ _ _ _ _ _)) <| RL.set hH14 (i := 1) rfl (run_stW rfl rfl rfl (by simp [Value.oneCell', pt, fnV]) (hH14.blk (i := 1) rfl) rfl) <| fun w15 hH16 => ?_
 simp only [z2] at hH16
 refine RL.nil <| CW.ret <| have hH17 : Hp _ w15 (_ :: _ :: _ :: [Ent.blk b12 (.cells ([fnV 18 #[pt b3]]).toArray 73 (0, 0))]) := Hp.zin0 (Z := [Ent.blk b12 (.cells ([fnV 18 #[pt b3]]).toArray 73 (0, 0))]) (L := [_, _, _]) hH16; have hH18 : Hp _ w15 (_ :: _ :: ([Ent.blk b6 (.cells ([e, l, j]).toArray 35 (0, 0))] ++ [Ent.blk b12 (.cells ([fnV 18 #[pt b3]]).toArray 73 (0, 0))])) := Hp.zin (Z := [Ent.blk b6 (.cells ([e, l, j]).toArray 35 (0, 0))]) (L := [_, _]) (L' := [Ent.blk b12 (.cells ([fnV 18 #[pt b3]]).toArray 73 (0, 0))]) (hH17.perm (((pC pR).trans pS).trans (pC pR))); have hH19 : Hp _ w15 (_ :: ([Ent.blk b3 (.cells ([pt m]).toArray 29 (0, 0))] ++ ([Ent.blk b6 (.cells ([e, l, j]).toArray 35 (0, 0))] ++ [Ent.blk b12 (.cells ([fnV 18 #[pt b3]]).toArray 73 (0, 0))]))) := Hp.zin (Z := [Ent.blk b3 (.cells ([pt m]).toArray 29 (0, 0))]) (L := [_]) (L' := ([Ent.blk b6 (.cells ([e, l, j]).toArray 35 (0, 0))] ++ [Ent.blk b12 (.cells ([fnV 18 #[pt b3]]).toArray 73 (0, 0))])) (hH18.perm (((pC pR).trans pS).trans (pC pR))); outCg Tryd.results9 rfl hH19 (i := 0) rfl underlying35 rfl rfl ⟨([Ent.blk b3 (.cells ([pt m]).toArray 29 (0, 0))] ++ ([Ent.blk b6 (.cells ([e, l, j]).toArray 35 (0, 0))] ++ [Ent.blk b12 (.cells ([fnV 18 #[pt b3]]).toArray 73 (0, 0))])), (hH19.sub (sQ sR)), _, _, _, _, _, _, rfl, ?_⟩
 ·exact ⟨b3, b6, b12, e, l, j, rfl, rfl, rfl, .inr (by simp), .inr (by simp), .inr (by simp), hd.mono (Le.z _ _)⟩
theorem c_tally_Of (K : Vu) (s : Shp) (hfn : s.facs.length ≤ 1000) (hnn : ∀ f ∈ s.facs, f.names.length ≤ 1000) (w : World) (hK : Le K (Kw w)) (hs : ShpV K s) : Calls Tryd.prog 8 #[.agg (shpC s)] w (Ret fun u w' => ∃ (f1 f2 f3 : FuncId) (a1 a2 a3 : Array Value) (p : Shp) (tb : TbM) (tl : List (Nat × Rl)) (Zt Z : List Ent), u = .agg #[fnV f1 a1, fnV f2 a2, fnV f3 a3] ∧ OpsV TX (Kz K Z) (.base p tb) (fnV f1 a1) (fnV f2 a2) (fnV f3 a3) ∧ p.sh = s.sh ∧ TbOf p.sh tb ∧ (∀ i, i < 8 → ∀ q, tb i = some q → q ∈ tl) ∧ TblZ 97 tl Zt ∧ Hp w w' (Zt ++ Z)) := by
 refine enter Tryd.func8 rfl Tryd.ntmps8 rfl <| have hH := Hp.start w; SR <| RL.new rfl hH (f := fun b => (.pointer (some ⟨b, 0, none⟩))) (run_box (v := .agg _) rfl) <| fun b3 w1 hH2 => RL.new rfl hH2 (f := fun b => (.pointer (some ⟨b, 0, none⟩))) (run_alloc zero_ops) <| fun b6 w4 hH5 => RL.nil <| SR <| V (run_ldA (cs := [B _, _]) underlying24 rfl rfl rfl (rangeAt_cells (hH5.blk (i := 1) rfl))) <| RL.new rfl hH5 (f := fun b => (.slice (some ⟨b, 0, none⟩) 1 1)) (run_mkShps underlying75 rfl rfl rfl (l := [s]) rfl (by decide) (by decide) rfl) <| fun b9 w7 hH8 => RL.callF rfl hH8 (c_shape_Product K (.slice (some ⟨b9, 0, none⟩) 1 1) [s] (show 1 ≤ 1000 by decide) (by simpa using hfn) (by simpa using hnn) _ (hK.trans hH8.kw) (Hp.slFlat shpL_len hH8 (i := 0) (l := [s]) rfl (show 1 ≤ maxLen by decide)) ⟨fun x hx => by rw [List.mem_singleton.1 hx]; exact hs⟩) (run_call1 call13 rfl) <| fun v12 w13 Z15 hH14 hp16 => have hH17 : Hp _ w13 (_ :: _ :: _ :: Z15) := hH14.zin0 (L := [_, _, _]); ?_
 obtain ⟨p18, rfl, psh19, pv20⟩ := hp16
 refine RL.new rfl hH17 (f := fun b => (.pointer (some ⟨b, 0, none⟩))) (run_alloc Tryd.zeroValue24) <| fun b23 w21 hH22 => RL.set hH22 (i := 0) rfl (run_stShp pv20 rfl rfl rfl (hH22.blk (i := 0) rfl) rfl) <| fun w24 hH25 => ?_
 simp only [z2] at hH25
 refine RL.nil <| SR <| V (fA underlying24 0 rfl sizeOf4 rfl) <| V (run_ld underlying4 rfl rfl (hH25.cell (i := 3) rfl (v := B _) rfl)) <| V (fA underlying24 0 rfl sizeOf4 rfl) <| RL.set (c' := #[B s.tuple, p18.fv]) hH25 (i := 0) rfl (run_st (off := 0 + 0) rfl rfl (v := B s.tuple) rfl rfl rfl (hH25.blk (i := 0) rfl) (by simp)) <| fun w27 hH28 => ?_
 simp only [z2] at hH28
 have hp3 : ShpV _ ⟨s.tuple, p18.fv, p18.facs⟩ := ⟨pv20.facs, pv20.each⟩
 refine RL.nil <| SR <| ?_
 refine V (run_mkF1 (by conv => lhs; whnf)) ?_
 refine V (run_ldA (cs := [B _, _]) underlying24 rfl rfl rfl (rangeAt_cells (hH28.blk (i := 0) rfl))) <| RL.callT rfl (c_tally_joiner ⟨s.tuple, p18.fv, p18.facs⟩ _ (hp3.mono (hH28.kz hK (fun x hx => (mT (mT (mT (mT hx)))))))) (run_call1 call17 rfl) <| ?_
 rintro _ w33 ⟨Bt29, tb30, tl31, Zt32, rfl, hto34, htl35, hZt36, h37⟩
 have hH38 : Hp _ w33 (_ :: _ :: _ :: _ :: ((Zt32 ++ [_]) ++ Z15)) := Hp.backZ (A := [_, _, _, _]) (Zf := Zt32 ++ [_]) (R := Z15) (hH28.callZ h37)
 refine V (run_bld (vs := [(0, fnV _ _), (1, fnV _ _), (2, fnV _ _)]) rfl (built_ops _ _ _ _ _ _)) <| RL.set hH38 (i := 2) rfl (run_stW rfl rfl rfl (by simp [Value.oneCell', pt, fnV]) (hH38.blk (i := 2) rfl) rfl) <| fun w39 hH40 => ?_
 simp only [z2] at hH40
 refine RL.nil <| CW.ret <| have hH41 : Hp _ w39 (_ :: _ :: _ :: ([Ent.blk b23 (.cells ([B s.tuple, p18.fv]).toArray 24 (0, 0))] ++ ((Zt32 ++ [_]) ++ Z15))) := Hp.zin (Z := [Ent.blk b23 (.cells ([B s.tuple, p18.fv]).toArray 24 (0, 0))]) (L := [_, _, _]) (L' := ((Zt32 ++ [_]) ++ Z15)) hH40; outCg Tryd.results8 rfl hH41 (i := 1) rfl underlying35 rfl rfl ⟨_, _, _, _, _, _, ⟨s.tuple, p18.fv, p18.facs⟩, tb30, tl31, Zt32, ([Ent.blk b23 (.cells ([B s.tuple, p18.fv]).toArray 24 (0, 0))] ++ ([Ent.blk Bt29 (.cells (tbL tb30).toArray 83 (0, 0))] ++ Z15)), rfl, ⟨b23, Bt29, rfl, rfl, rfl, .inr (by simp), hp3.mono (Le.zz fun x hx => by simp [hx]), .inr (by simp)⟩, ?_, hto34, htl35, hZt36, ?_⟩
 ·have hq := congrArg Sh.facs psh19; simp only [prodF, List.flatMap_cons, List.flatMap_nil, List.append_nil] at hq
  show (⟨s.tuple, p18.facs.map Fac.fc⟩ : Sh) = s.sh; rw [show p18.facs.map Fac.fc = s.sh.facs from hq]; rfl
 ·exact (hH41.sub (sQ (sQ (sQ sR)))).perm (by rw [List.append_assoc]; exact List.perm_append_comm_assoc _ _ _)
section
theorem ent_e {K : Vu} {d : Wr} {e l j : Value} (h : OpsV TX K d e l j) : EntF Tryd.prog e := by
 cases d with
 | base p tb => obtain ⟨B1, B2, rfl, rfl, rfl, -⟩ := h; exact ⟨_, _, rfl, call14⟩
 | wrap m d => obtain ⟨b2, b3, b5, e', l', j', rfl, rfl, rfl, -⟩ := h; exact ⟨_, _, rfl, call21⟩
theorem call_e (W0 : World) (ids : List Nat) (tl : List (Nat × Rl)) (hT : Tab W0) (v : Value) (il : List InsR) (u : Value) (vs : List El) (hil : il.length ≤ 1000) (d : Wr) : ∀ (n : Nat) (f : Ct) (Z R : List Ent) (e l j : Value) (w : World), OpsV TX (Kz (Kw W0) R) d e l j → d.inn ids tl → TalZ TX ids f tl Z → OkC n f → n + d.dep ≤ 1000000 → SlV (Kz (Kw W0) R) v 10 il.length (il.flatMap insL) → SlV (Kz (Kw W0) R) u 8 vs.length (vs.flatMap elL) → Hp W0 w (Z ++ R) →
  CallsF Tryd.prog e [v, u] w (Ret fun x w' => x = .tuple #[.agg (elC (evalF d.sh.sh il vs).1), B (evalF d.sh.sh il vs).2] ∧ ∃ Z', TalZ TX ids (d.tick .e f) tl Z' ∧ Hp W0 w' (Z' ++ R)) := by
 induction d with
 | base p tb =>
  intro n f Z R e l j w hO hi hZ hf hn hs ht hH
  obtain ⟨B1, B2, rfl, rfl, rfl, h4, h5, h6⟩ := hO
  have hk := hH.kz (Le.refl _) (Z := R) fun x hx => List.mem_append_right _ hx
  refine ⟨_, [pt B1], rfl, call14, ?_⟩
  exact (c_tally_Of_1 B1 p v il u vs hil w (hs.mono hk).sl (ht.mono hk).sl (h5.mono hk) (hk _ _ h4) (hT.hp hH)).mono fun x w' hx => Ret.mono (fun y w2 hy => ⟨hy.1, Z, hZ, hH.call hy.2⟩) hx
 | wrap m d ih =>
  intro n f Z R e l j w hO hi hZ hf hn hs ht hH
  obtain ⟨b2, b3, b5, e', l', j', rfl, rfl, rfl, h5, h2, h3, hd⟩ := hO
  obtain ⟨fe, ce, he, hfe⟩ := ent_e hd
  subst he
  obtain ⟨Y, hp, hq⟩ := hZ.pick hi.1 hH
  obtain ⟨Z1, hz1, hp1⟩ := hq (Kd.e.up (f m))
  have hn' : n + (d.dep + 1) ≤ 1000000 := hn
  refine ⟨_, [pt b5, pt b3], rfl, call21, ?_⟩
  refine c_tally_Meter_Wrap_2 W0 b5 b3 b2 m (f m) fe ce _ _ v u (evalF d.sh.sh il vs).1 (evalF d.sh.sh il vs).2 Y R (fun Z' => TalZ TX ids (d.tick .e (tick1 .e m f)) tl Z') (hf.ok (by omega) m) w hfe h5 h2 h3 (fun w1 A h => ?_) (hH.perm (hp.append_right R))
  exact (ih (n + 1) (tick1 .e m f) Z1 (A ++ R) _ _ _ w1 (hd.mono (Le.zz fun x hx => List.mem_append_right _ hx)) hi.2 hz1 (hf.tick _ m) (by omega) (hs.mono (Le.zz fun x hx => List.mem_append_right _ hx)) (ht.mono (Le.zz fun x hx => List.mem_append_right _ hx)) (h.perm (hp1.append_right _))).get
theorem ent_l {K : Vu} {d : Wr} {e l j : Value} (h : OpsV TX K d e l j) : EntF Tryd.prog l := by
 cases d with
 | base p tb => obtain ⟨B1, B2, rfl, rfl, rfl, -⟩ := h; exact ⟨_, _, rfl, call16⟩
 | wrap m d => obtain ⟨b2, b3, b5, e', l', j', rfl, rfl, rfl, -⟩ := h; exact ⟨_, _, rfl, call23⟩
theorem call_l (W0 : World) (ids : List Nat) (tl : List (Nat × Rl)) (hT : Tab W0) (a b : El) (d : Wr) : ∀ (n : Nat) (f : Ct) (Z R : List Ent) (e l j : Value) (w : World), OpsV TX (Kz (Kw W0) R) d e l j → d.inn ids tl → TalZ TX ids f tl Z → OkC n f → n + d.dep ≤ 1000000 →  Hp W0 w (Z ++ R) →
  CallsF Tryd.prog l [.agg (elC a), .agg (elC b)] w (Ret fun x w' => x = B (leqE a b) ∧ ∃ Z', TalZ TX ids (d.tick .l f) tl Z' ∧ Hp W0 w' (Z' ++ R)) := by
 induction d with
 | base p tb =>
  intro n f Z R e l j w hO hi hZ hf hn  hH
  obtain ⟨B1, B2, rfl, rfl, rfl, h4, h5, h6⟩ := hO
  have hk := hH.kz (Le.refl _) (Z := R) fun x hx => List.mem_append_right _ hx
  refine ⟨_, [], rfl, call16, ?_⟩
  exact (c_shape_Leq a b w).mono fun x w' hx => Ret.mono (fun y w2 hy => ⟨hy.1, Z, hZ, hH.call hy.2⟩) hx
 | wrap m d ih =>
  intro n f Z R e l j w hO hi hZ hf hn  hH
  obtain ⟨b2, b3, b5, e', l', j', rfl, rfl, rfl, h5, h2, h3, hd⟩ := hO
  obtain ⟨fe, ce, he, hfe⟩ := ent_l hd
  subst he
  obtain ⟨Y, hp, hq⟩ := hZ.pick hi.1 hH
  obtain ⟨Z1, hz1, hp1⟩ := hq (Kd.l.up (f m))
  have hn' : n + (d.dep + 1) ≤ 1000000 := hn
  refine ⟨_, [pt b5, pt b3], rfl, call23, ?_⟩
  refine c_tally_Meter_Wrap_3 W0 b5 b3 b2 m (f m) fe ce _ _ a b (leqE a b) Y R (fun Z' => TalZ TX ids (d.tick .l (tick1 .l m f)) tl Z') (hf.ok (by omega) m) w hfe h5 h2 h3 (fun w1 A h => ?_) (hH.perm (hp.append_right R))
  exact (ih (n + 1) (tick1 .l m f) Z1 (A ++ R) _ _ _ w1 (hd.mono (Le.zz fun x hx => List.mem_append_right _ hx)) hi.2 hz1 (hf.tick _ m) (by omega)  (h.perm (hp1.append_right _))).get
theorem ent_j {K : Vu} {d : Wr} {e l j : Value} (h : OpsV TX K d e l j) : EntF Tryd.prog j := by
 cases d with
 | base p tb => obtain ⟨B1, B2, rfl, rfl, rfl, -⟩ := h; exact ⟨_, _, rfl, call32⟩
 | wrap m d => obtain ⟨b2, b3, b5, e', l', j', rfl, rfl, rfl, -⟩ := h; exact ⟨_, _, rfl, call25⟩
theorem call_j (W0 : World) (ids : List Nat) (tl : List (Nat × Rl)) (hT : Tab W0) (a b : El) (d : Wr) : ∀ (n : Nat) (f : Ct) (Z R : List Ent) (e l j : Value) (w : World), OpsV TX (Kz (Kw W0) R) d e l j → d.inn ids tl → TalZ TX ids f tl Z → OkC n f → n + d.dep ≤ 1000000 →  Hp W0 w (Z ++ R) →
  CallsF Tryd.prog j [.agg (elC a), .agg (elC b)] w (Ret fun x w' => x = .agg (elC (joinTb d.tb a b)) ∧ ∃ Z', TalZ TX ids (d.tick .j f) tl Z' ∧ Hp W0 w' (Z' ++ R)) := by
 induction d with
 | base p tb =>
  intro n f Z R e l j w hO hi hZ hf hn  hH
  obtain ⟨B1, B2, rfl, rfl, rfl, h4, h5, h6⟩ := hO
  have hk := hH.kz (Le.refl _) (Z := R) fun x hx => List.mem_append_right _ hx
  refine ⟨_, [pt B2], rfl, call32, ?_⟩
  obtain ⟨Zt, hzt, rfl⟩ := hZ
  refine (c_tally_joiner_1 W0 B2 tb tl Zt (ids.map (fun m => blkM TX m (f m)) ++ R) a b w hT hi.2 (Le.zz (fun x hx => List.mem_append_right _ hx) _ _ h6) hzt (hH.perm (by rw [List.append_assoc]; exact List.perm_append_comm_assoc _ _ _))).mono fun x w' hx => Ret.mono (fun y w2 hy => ⟨hy.1, ?_⟩) hx
  obtain ⟨-, Z', hz', h'⟩ := hy
  exact ⟨_, ⟨Z', hz', rfl⟩, h'.perm (by rw [List.append_assoc]; exact List.perm_append_comm_assoc _ _ _)⟩
 | wrap m d ih =>
  intro n f Z R e l j w hO hi hZ hf hn  hH
  obtain ⟨b2, b3, b5, e', l', j', rfl, rfl, rfl, h5, h2, h3, hd⟩ := hO
  obtain ⟨fe, ce, he, hfe⟩ := ent_j hd
  subst he
  obtain ⟨Y, hp, hq⟩ := hZ.pick hi.1 hH
  obtain ⟨Z1, hz1, hp1⟩ := hq (Kd.j.up (f m))
  have hn' : n + (d.dep + 1) ≤ 1000000 := hn
  refine ⟨_, [pt b5, pt b3], rfl, call25, ?_⟩
  refine c_tally_Meter_Wrap_4 W0 b5 b3 b2 m (f m) fe ce _ _ a b (joinTb d.tb a b) Y R (fun Z' => TalZ TX ids (d.tick .j (tick1 .j m f)) tl Z') (hf.ok (by omega) m) w hfe h5 h2 h3 (fun w1 A h => ?_) (hH.perm (hp.append_right R))
  exact (ih (n + 1) (tick1 .j m f) Z1 (A ++ R) _ _ _ w1 (hd.mono (Le.zz fun x hx => List.mem_append_right _ hx)) hi.2 hz1 (hf.tick _ m) (by omega)  (h.perm (hp1.append_right _))).get
end
theorem c_clearancelaw17_whole (K : Vu) (d : Wr) (e l j : Value) (w : World) (hd : OpsV TX K d e l j) : Calls Tryd.prog 10 #[.agg #[e, l, j]] w (Pure (B true) w) := by
 obtain ⟨f1, f2, f3, a1, a2, a3, rfl, rfl, rfl⟩ := hd.one
 refine enter Tryd.func10 rfl Tryd.ntmps10 rfl <| have hH := Hp.start w; SR <| RL.new rfl hH (f := fun b => (.pointer (some ⟨b, 0, none⟩))) (run_box (v := .agg _) rfl) <| fun b3 w1 hH2 => va (v := B false) rfl <| RL.nil <| SR <| V (fA underlying35 0 rfl sizeOf31 rfl) <| V (run_ld underlying31 rfl rfl (hH2.cell (i := 0) rfl (v := .func _ _ _) rfl)) <| V (run_neqF underlying31 rfl rfl) <| mB rfl <| gT rfl rfl <| V (fA underlying35 1 rfl sizeOf32 rfl) <| gT rfl rfl <| V (run_ld underlying32 rfl rfl (hH2.cell (i := 0) rfl (v := .func _ _ _) rfl)) <| gT rfl rfl <| V (run_neqF underlying32 rfl rfl) <| V (run_pickT rfl (v := B _) rfl) <| mB rfl <| gT rfl rfl <| V (fA underlying35 2 rfl sizeOf33 rfl) <| gT rfl rfl <| V (run_ld underlying33 rfl rfl (hH2.cell (i := 0) rfl (v := .func _ _ _) rfl)) <| gT rfl rfl <| V (run_neqF underlying33 rfl rfl) <| V (run_pickT rfl (v := B _) rfl) <| aB rfl <| RL.nil <| CW.ret <| outP1 Tryd.results10 (congrArg B ?_) hH2.below
 rfl
theorem c_clearancelaw17_big (v : Value) (l : List CalR) (w : World) (hs : Sl w v 19 l.length (l.flatMap calL)) (hv : CalsV (Kw w) l) : Calls Tryd.prog 5 #[v] w (Pure (B (bigCal l)) w) := by
 have hm := hs.small
 unfold maxLen at hm
 refine enter Tryd.func5 rfl Tryd.ntmps5 rfl <| have hH := Hp.start w; SR <| va (v := B false) rfl <| RL.nil <| CW.seq <| SR <| ?_
 refine V (run_move (by conv => lhs; whnf)) ?_
 refine V (run_lenSl (hs.hp hH) rfl underlying25 rfl) <| V (run_gtr rfl rfl) <| RL.nil <| CW.condP rfl (fun h2 => ?_) (fun h2 => ?_)
 ·refine SR <| va (v := B true) rfl <| RL.nil <| CW.ret <| outP1 Tryd.results5 (congrArg B ?_) hH.below
  (rw [bigCal, decide_eq_true (by omega)]; rfl)
 ·refine CW.skip <| CW.seq <| SR <| ?_
  refine V (run_move (by conv => lhs; whnf)) ?_
  refine V (run_lenSl (hs.hp hH) rfl underlying25 rfl) <| vm (v := I 0) rfl <| RL.nil <| CW.block <| have hno : ¬ 60 < l.length := (by omega); CW.loop (G := Int) (fun k s' w' => (Fr (2 :: (4 :: (rg 10 15 []))) _ s') ∧ (Hp w w' _) ∧ (s' 10 = I k) ∧ (0 ≤ k) ∧ (k ≤ l.length) ∧ (∀ j : Int, 0 ≤ j → j < k → bigX (l.getD j.toNat cal0) = false)) (fun k => (l.length - k).toNat) (0) ⟨Fr.refl _ _, hH, rfl, (by omega), (by omega), fun j a b => absurd b (by omega)⟩ <| ?_
  rintro k sg3 w3 ⟨fr3, hH3, e10_3, h0, hk, hg⟩
  have e8_3 := (fr3 8 rfl).trans (by conv => lhs; whnf)
  have e9_3 := fr3.ii 9 rfl rfl
  refine SR <| V (run_lss e10_3 e9_3) <| RL.nil <| CW.seq <| CW.condP rfl (fun h5 => ?_) (fun h5 => ?_)
  ·refine CW.skip <| CW.seq <| CW.block <| SR <| V (run_indexAddrS (hs.hp hH3) underlying25 sizeOf45 e8_3 e10_3 (by omega)) <| V (run_ldE (dv := cal0) calL_len (hs.hp hH3) underlying45 rfl rfl rfl (by omega)) <| RL.new rfl hH3 (f := fun b => (.pointer (some ⟨b, 0, none⟩))) (run_alloc zero_cal) <| fun b8 w6 hH7 => RL.set hH7 (i := 0) rfl (run_stW (c' := (calL _).toArray) rfl rfl rfl (calL_one (hv.at (by omega) (by omega))) (hH7.blk (i := 0) rfl) rfl) <| fun w9 hH10 => ?_
   simp only [z2] at hH10
   refine RL.nil <| SR <| V (fA underlying45 1 rfl sizeOf39 rfl) <| V (run_ldV ((hv.at (by omega) (by omega)).ins.sl.hp hH10) underlying39 rfl rfl (hH10.cell (i := 0) rfl rfl)) <| V (run_lenSl ((hv.at (by omega) (by omega)).ins.sl.hp hH10) rfl underlying39 rfl) <| V (run_gtr rfl rfl) <| mB rfl <| RL.splitP (dj := 18) rfl (fun h12 => ?_) (fun h12 => ?_)
   ·refine gF rfl (bT h12) <| gF rfl (bT h12) <| gF rfl (bT h12) <| gF rfl (bT h12) <| V (run_pickT (bT h12) (v := B true) rfl) <| RL.nil <| CW.condT rfl <| SR <| va (v := B true) rfl <| RL.nil <| CW.ret <| outP1 Tryd.results5 (congrArg B ?_) hH10.below
    (rw [bigCal, any_yes (d := cal0) (P := bigX) h0 ‹k < _› (by rw [bigX, Bool.or_eq_true]; exact .inl (decide_eq_true (by omega)))]; simp)
   ·refine gT rfl (bF h12) <| V (fA underlying45 2 rfl sizeOf40 rfl) <| gT rfl (bF h12) <| V (run_ldV ((hv.at (by omega) (by omega)).vals.sl.hp hH10) underlying40 rfl rfl (hH10.cell (i := 0) rfl rfl)) <| gT rfl (bF h12) <| V (run_lenSl ((hv.at (by omega) (by omega)).vals.sl.hp hH10) rfl underlying40 rfl) <| gT rfl (bF h12) <| V (run_gtr rfl rfl) <| V (run_pickF (bF h12) (v := B _) rfl) <| RL.nil <| CW.condP rfl (fun h14 => ?_) (fun h14 => ?_)
    ·refine SR <| va (v := B true) rfl <| RL.nil <| CW.ret <| outP1 Tryd.results5 (congrArg B ?_) hH10.below
     (rw [bigCal, any_yes (d := cal0) (P := bigX) h0 ‹k < _› (by rw [bigX, Bool.or_eq_true]; exact .inr (decide_eq_true (by omega)))]; simp)
    ·refine CW.skip <| CW.region <| V (run_add e10_3 rfl (by omega)) <| mI rfl <| RL.nil <| ?_
     refine ⟨k + 1, ?_, fr3.u4.u4.u4.u4, (hH10.sub (sQ sR)), (congrArg I (by rfl)), ?_, ?_, ?_⟩
     ·((try dsimp only); omega)
     ·omega
     ·omega
     ·exact fun j a b => if e : j = k then e ▸ (by rw [bigX, Bool.or_eq_false_iff]; exact ⟨decide_eq_false (by omega), decide_eq_false (by omega)⟩) else hg j a (by omega)
  ·refine CW.exit (id := 0) rfl <| SR <| va (v := B false) rfl <| RL.nil <| CW.ret <| outP1 Tryd.results5 (congrArg B ?_) hH3.below
   (rw [bigCal, any_no (d := cal0) ‹_› hg, decide_eq_false hno]; rfl)
theorem c_clearancelaw17_do (W0 : World) (ids : List Nat) (tl : List (Nat × Rl)) (d : Wr) (n : Nat) (f : Ct) (Zf R : List Ent) (e l j : Value) (x : CalR) (hxl : x.l.length ≤ 1000) (hi : d.inn ids tl) (hf : OkC n f) (hn : n + d.dep ≤ 1000000) (w : World) (hT : Tab W0) (hd : OpsV TX (Kz (Kw W0) R) d e l j) (hx : CalV (Kz (Kw W0) R) x) (hZ : TalZ TX ids f tl Zf) (hH : Hp W0 w (Zf ++ R)) : Calls Tryd.prog 11 #[.agg #[e, l, j], .agg (calL x).toArray] w (Ret fun u w' => u = .agg (ansL (ansW d x)).toArray ∧ ∃ Z', TalZ TX ids (d.tick (kdOf x) f) tl Z' ∧ Hp W0 w' (Z' ++ R)) := by
 obtain ⟨f1, f2, f3, a1, a2, a3, rfl, rfl, rfl⟩ := hd.one
 have hxw := hx.mono (hH.kz (Le.refl _) (Z := R) fun y hy => List.mem_append_right _ hy)
 refine enter Tryd.func11 rfl Tryd.ntmps11 rfl <| SR <| RL.new rfl hH (f := fun b => (.pointer (some ⟨b, 0, none⟩))) (run_box (v := .agg _) rfl) <| fun b3 w1 hH2 => RL.new rfl hH2 (f := fun b => (.pointer (some ⟨b, 0, none⟩))) (run_box (v := .agg _) rfl) <| fun b6 w4 hH5 => RL.new rfl hH5 (f := fun b => (.pointer (some ⟨b, 0, none⟩))) (run_alloc zero_got) <| fun b9 w7 hH8 => RL.nil <| CW.seq <| SR <| V (fA underlying45 0 rfl sizeOf3 rfl) <| V (run_ld underlying3 rfl rfl (hH8.cell (i := 1) rfl (v := I _) rfl)) <| RL.nil <| CW.block <| SR <| V (run_eql rfl rfl) <| aB rfl <| RL.nil <| CW.condP rfl (fun h11 => ?_) (fun h11 => ?_)
 ·refine SR <| V (fA underlying35 1 rfl sizeOf32 rfl) <| V (run_ld underlying32 rfl rfl (hH8.cell (i := 2) rfl (v := .func _ _ _) rfl)) <| V (fA underlying45 3 rfl sizeOf43 rfl) <| V (run_ldElR underlying43 rfl rfl rfl (hH8.blk (i := 1) rfl) (cal_aB _)) <| V (fA underlying45 11 rfl sizeOf43 rfl) <| V (run_ldElR underlying43 rfl rfl rfl (hH8.blk (i := 1) rfl) (cal_bB _)) <| ?_
  obtain ⟨fq13, cq14, hq15, hfq16, hcq17⟩ := call_l W0 ids tl hT x.a x.b d n f Zf ([_, _, _] ++ R) _ _ _ _ (hd.mono (Le.zz fun x hx => List.mem_append_right _ hx)) hi hZ hf hn  (Hp.frontZ (A := [_, _, _]) (Zf := Zf) (R := R) hH8)
  refine RL.callT rfl hcq17 (run_callC2 hfq16 (cs := cq14) hq15 rfl rfl) ?_
  rintro _ w18 ⟨rfl, Z21, hZ22, h19⟩
  have hH20 : Hp _ w18 (_ :: _ :: _ :: (Z21 ++ R)) := Hp.backZ (A := [_, _, _]) h19
  refine V (run_bld (vs := [(1, B _)]) rfl (built_got1 _)) <| RL.set hH20 (i := 0) rfl (run_stW (c' := (ansL _).toArray) rfl rfl rfl (ansL_one _) (hH20.blk (i := 0) rfl) rfl) <| fun w23 hH24 => ?_
  simp only [z2] at hH24
  refine RL.nil <| CW.ret <| outCg Tryd.results11 rfl hH24 (i := 0) rfl underlying47 rfl (by simp only [List.size_toArray, ansL_len]; rfl) ⟨?_, Z21, ?_, hH24.sub (sQ (sQ (sQ sR)))⟩
  ·(rw [ansW, if_pos ‹_›]; done)
  ·(rw [kdOf, if_pos ‹_›]; exact hZ22)
 ·refine SR <| V (run_eql rfl rfl) <| aB rfl <| RL.nil <| CW.condP rfl (fun h26 => ?_) (fun h26 => ?_)
  ·refine SR <| V (fA underlying35 2 rfl sizeOf33 rfl) <| V (run_ld underlying33 rfl rfl (hH8.cell (i := 2) rfl (v := .func _ _ _) rfl)) <| V (fA underlying45 3 rfl sizeOf43 rfl) <| V (run_ldElR underlying43 rfl rfl rfl (hH8.blk (i := 1) rfl) (cal_aB _)) <| V (fA underlying45 11 rfl sizeOf43 rfl) <| V (run_ldElR underlying43 rfl rfl rfl (hH8.blk (i := 1) rfl) (cal_bB _)) <| ?_
   obtain ⟨fq27, cq28, hq29, hfq30, hcq31⟩ := call_j W0 ids tl hT x.a x.b d n f Zf ([_, _, _] ++ R) _ _ _ _ (hd.mono (Le.zz fun x hx => List.mem_append_right _ hx)) hi hZ hf hn  (Hp.frontZ (A := [_, _, _]) (Zf := Zf) (R := R) hH8)
   refine RL.callT rfl hcq31 (run_callC2 hfq30 (cs := cq28) hq29 rfl rfl) ?_
   rintro _ w32 ⟨rfl, Z35, hZ36, h33⟩
   have hH34 : Hp _ w32 (_ :: _ :: _ :: (Z35 ++ R)) := Hp.backZ (A := [_, _, _]) h33
   refine V (run_bld (vs := [(0, .agg (elC _))]) rfl (built_got0 _)) <| RL.set hH34 (i := 0) rfl (run_stW (c' := (ansL _).toArray) rfl rfl rfl (ansL_one _) (hH34.blk (i := 0) rfl) rfl) <| fun w37 hH38 => ?_
   simp only [z2] at hH38
   refine RL.nil <| CW.ret <| outCg Tryd.results11 rfl hH38 (i := 0) rfl underlying47 rfl (by simp only [List.size_toArray, ansL_len]; rfl) ⟨?_, Z35, ?_, hH38.sub (sQ (sQ (sQ sR)))⟩
   ·(rw [ansW, if_neg ‹_›, if_pos ‹_›]; done)
   ·(rw [kdOf, if_neg ‹_›, if_pos ‹_›]; exact hZ36)
  ·refine CW.skip <| SR <| V (fA underlying35 0 rfl sizeOf31 rfl) <| V (run_ld underlying31 rfl rfl (hH8.cell (i := 2) rfl (v := .func _ _ _) rfl)) <| V (fA underlying45 1 rfl sizeOf39 rfl) <| V (run_ldV hxw.ins.sl underlying39 rfl rfl (hH8.cell (i := 1) rfl rfl)) <| V (fA underlying45 2 rfl sizeOf40 rfl) <| V (run_ldV hxw.vals.sl underlying40 rfl rfl (hH8.cell (i := 1) rfl rfl)) <| ?_
   obtain ⟨fq39, cq40, hq41, hfq42, hcq43⟩ := call_e W0 ids tl hT x.lv x.l x.vv x.v hxl d n f Zf ([_, _, _] ++ R) _ _ _ _ (hd.mono (Le.zz fun x hx => List.mem_append_right _ hx)) hi hZ hf hn (hx.ins.mono (Le.zz fun x hx => List.mem_append_right _ hx)) (hx.vals.mono (Le.zz fun x hx => List.mem_append_right _ hx)) (Hp.frontZ (A := [_, _, _]) (Zf := Zf) (R := R) hH8)
   refine RL.callT rfl hcq43 (run_callC2 hfq42 (cs := cq40) hq41 rfl rfl) ?_
   rintro _ w44 ⟨rfl, Z47, hZ48, h45⟩
   have hH46 : Hp _ w44 (_ :: _ :: _ :: (Z47 ++ R)) := Hp.backZ (A := [_, _, _]) h45
   refine V (run_move (by conv => lhs; whnf)) ?_
   refine V (run_extract rfl (v := .agg _) rfl) <| V (run_extract rfl (v := B _) rfl) <| RL.new rfl hH46 (f := fun b => (.pointer (some ⟨b, 0, none⟩))) (run_alloc zero_el) <| fun b52 w50 hH51 => RL.set hH51 (i := 0) rfl (run_stEl rfl rfl rfl (hH51.blk (i := 0) rfl)) <| fun w53 hH54 => ?_
   simp only [z2] at hH54
   refine aB rfl <| RL.nil <| SR <| V (run_ldEl underlying43 rfl rfl rfl (hH54.blk (i := 0) rfl)) <| mB rfl <| V (run_bld (vs := [(0, .agg (elC _)), (1, B _)]) rfl (built_got01 _ _)) <| RL.set hH54 (i := 1) rfl (run_stW (c' := (ansL _).toArray) rfl rfl rfl (ansL_one _) (hH54.blk (i := 1) rfl) rfl) <| fun w55 hH56 => ?_
   simp only [z2] at hH56
   refine RL.nil <| CW.ret <| outCg Tryd.results11 rfl hH56 (i := 1) rfl underlying47 rfl (by simp only [List.size_toArray, ansL_len]; rfl) ⟨?_, Z47, ?_, hH56.sub (sQ (sQ (sQ (sQ sR))))⟩
   ·(rw [ansW, if_neg ‹_›, if_neg ‹_›]; done)
   ·(rw [kdOf, if_neg ‹_›, if_neg ‹_›]; exact hZ48)
section
variable {W0 w : World} {ids : List Nat} {tl : List (Nat × Rl)} {d : Wr} {n m : Nat} {f : Ct} {Zf R A : List Ent} {e l j : Value} {x : CalR} {s : Sh}
theorem m_do (hT : Tab W0) (hxl : x.l.length ≤ 1000) (hi : d.inn ids tl) (hs : d.sh.sh = s) (hf : OkC n f) (hn : n + d.dep ≤ 1000000) (hd : OpsV TX (Kz (Kw W0) R) d e l j) (hx : CalV (Kz (Kw W0) R) x) (hZ : TalZ TX ids f tl Zf) (hH : Hp W0 w (A ++ (Zf ++ R))) :
  Calls Tryd.prog 11 #[.agg #[e, l, j], .agg (calL x).toArray] w (Ret fun u w' => u = .agg (ansL (ansS s x)).toArray ∧ ∃ Z', TalZ TX ids (d.tick (kdOf x) f) tl Z' ∧ Hp W0 w' (A ++ (Z' ++ R))) :=
 (c_clearancelaw17_do W0 ids tl d n f Zf (A ++ R) e l j x hxl hi hf hn w hT (hd.mono (Le.zz fun y hy => List.mem_append_right _ hy)) (hx.mono (Le.zz fun y hy => List.mem_append_right _ hy)) hZ hH.frontZ).mono fun y w' hy => Ret.mono (fun u w2 h => ⟨h.1.trans (by rw [ans_is hi hs]), h.2.elim fun Z' q => ⟨Z', q.1, Hp.backZ (A := A) q.2⟩⟩) hy
theorem got_same (a : El × Bool) : EqT Tryd.prog 47 (ansL a).toArray (ansL a).toArray true := (eq_got a a).conv (by simp [eqE_rfl])
theorem cnt_same {a b c a' b' c' : Int} (h1 : a = a') (h2 : b = b') (h3 : c = c') : EqT Tryd.prog 50 #[I a, I b, I c] #[I a', I b', I c'] true := (eq_cnt ..).conv (by simp [h1, h2, h3])
end
section
variable {W0 w : World} {ids : List Nat} {tl : List (Nat × Rl)} {d : Wr} {n m : Nat} {f : Ct} {Zf R A : List Ent} {e l j : Value} {x : CalR} {s : Sh}
theorem m_Read (hm : m ∈ ids) (hZ : TalZ TX ids f tl Zf) {L : List Ent} (hH : Hp W0 w L) (hs : ∀ x, x ∈ Zf → x ∈ L) : Calls Tryd.prog 12 #[pt m] w (Pure (.agg #[I (f m).e, I (f m).l, I (f m).j]) w) :=
 c_tally_Meter_Read m (f m) w (hZ.blk hm hH hs)
end
theorem c_clearancelaw17_alive  (w : World) (hT : Tab w) : Calls Tryd.prog 6 #[] w (Pure (B true) w) := by
 refine enter Tryd.func6 rfl Tryd.ntmps6 rfl <| have hH := Hp.start w; SR <| va (v := B false) rfl <| RL.nil <| SR <| RL.callT rfl (c_tally_New _) (run_call0 call7) <| ?_
 rintro _ w4 ⟨m3, rfl, h5⟩
 have hH6 : Hp _ w4 (blkM TX m3 cn0 :: []) := hH.callZ h5
 refine va (v := Pn _ _) rfl <| RL.nil <| SR <| vm (v := Pn _ _) rfl <| RL.new rfl hH6 (f := fun b => (.slice (some ⟨b, 0, none⟩) 2 2)) (run_mkL underlying53 rfl rfl (sz := 1) (vs := [.string ⟨#[97]⟩, .string ⟨#[98]⟩]) rfl rfl (by decide) (by decide) rfl rfl) <| fun b9 w7 hH8 => ?_
 (try simp only [clX] at hH8)
 have hH10 : Hp _ w7 (_ :: [Ent.blk b9 (.cells (txL exAB).toArray 9 (0, 0))]) := Hp.zin0 (Z := [Ent.blk b9 (.cells (txL exAB).toArray 9 (0, 0))]) (L := [_]) hH8
 have hv11 : SlV (Kz (Kw w) [Ent.blk b9 (.cells (txL exAB).toArray 9 (0, 0))]) (.slice (some ⟨b9, 0, none⟩) 2 2) 1 2 (txL exAB) := slv_blk (List.mem_cons_self ..) rfl (by simp [maxLen])
 refine V (run_bld (vs := [(0, I 2), (1, .slice (some ⟨b9, 0, none⟩) 2 2)]) rfl (built_fac 2 b9 2 exAB)) <| RL.new rfl hH10 (f := fun b => (.slice (some ⟨b, 0, none⟩) 1 1)) (run_mkFacs underlying22 rfl rfl rfl (l := [_]) rfl (by decide) (by decide) rfl) <| fun b14 w12 hH13 => have hH15 : Hp _ w12 (_ :: ([Ent.blk b14 (.cells ([(⟨2, .slice (some ⟨b9, 0, none⟩) 2 2, exAB, Rl.none⟩ : Fac)].flatMap facL).toArray 58 (0, 0))] ++ [Ent.blk b9 (.cells (txL exAB).toArray 9 (0, 0))])) := Hp.zin (Z := [Ent.blk b14 (.cells ([(⟨2, .slice (some ⟨b9, 0, none⟩) 2 2, exAB, Rl.none⟩ : Fac)].flatMap facL).toArray 58 (0, 0))]) (L := [_]) (L' := [Ent.blk b9 (.cells (txL exAB).toArray 9 (0, 0))]) hH13; have hv16 : SlV (Kz (Kw w) [Ent.blk b14 (.cells ([(⟨2, .slice (some ⟨b9, 0, none⟩) 2 2, exAB, Rl.none⟩ : Fac)].flatMap facL).toArray 58 (0, 0))]) (.slice (some ⟨b14, 0, none⟩) 1 1) 67 1 ([(⟨2, .slice (some ⟨b9, 0, none⟩) 2 2, exAB, Rl.none⟩ : Fac)].flatMap facL) := slv_blk (List.mem_cons_self ..) (flat_length facL_len _) (by simp [maxLen]); V (run_bld (vs := [(1, .slice (some ⟨b14, 0, none⟩) 1 1)]) rfl (built_shp1 rfl)) <| have hs17 : ShpV (Kz (Kw w) ([Ent.blk b14 (.cells ([(⟨2, .slice (some ⟨b9, 0, none⟩) 2 2, exAB, Rl.none⟩ : Fac)].flatMap facL).toArray 58 (0, 0))] ++ [Ent.blk b9 (.cells (txL exAB).toArray 9 (0, 0))])) (⟨false, .slice (some ⟨b14, 0, none⟩) 1 1, [(⟨2, .slice (some ⟨b9, 0, none⟩) 2 2, exAB, Rl.none⟩ : Fac)]⟩ : Shp) := ⟨(hv16.mono (Le.zz (fun x hx => (List.mem_append_left _ hx)))), fun x hx => by rw [List.mem_singleton.1 hx]; exact ⟨(hv11.mono (Le.zz (fun x hx => (List.mem_append_right _ hx))))⟩⟩; RL.callT rfl (c_tally_Of (Kz (Kw w) ([Ent.blk b14 (.cells ([(⟨2, .slice (some ⟨b9, 0, none⟩) 2 2, exAB, Rl.none⟩ : Fac)].flatMap facL).toArray 58 (0, 0))] ++ [Ent.blk b9 (.cells (txL exAB).toArray 9 (0, 0))])) _ (by simp) (fun f hf => by rw [List.mem_singleton.1 hf]; exact (show List.length exAB ≤ 1000 by decide)) _ (hH15.kz (Le.refl _) (fun x hx => (mT hx))) hs17) (run_call1 call8 rfl) <| ?_
 rintro _ w20 ⟨f1, f2, f3, a1, a2, a3, p21, tb22, tl23, Zt24, Zq25, rfl, hd26, hp27, hto28, htl29, hzt30, h31⟩
 have h31a : Hp _ w20 ((Zt24 ++ Zq25) ++ ([] ++ ([_] ++ ([Ent.blk b14 (.cells ([(⟨2, .slice (some ⟨b9, 0, none⟩) 2 2, exAB, Rl.none⟩ : Fac)].flatMap facL).toArray 58 (0, 0))] ++ [Ent.blk b9 (.cells (txL exAB).toArray 9 (0, 0))])))) := Hp.callZ hH15 h31
 obtain ⟨Zf32, hZ33, hH34⟩ : ∃ Zf, TalZ TX [m3] ct0 ([] ++ tl23) Zf ∧ Hp _ w20 ((Zf ++ (Zq25 ++ ([Ent.blk b14 (.cells ([(⟨2, .slice (some ⟨b9, 0, none⟩) 2 2, exAB, Rl.none⟩ : Fac)].flatMap facL).toArray 58 (0, 0))] ++ [Ent.blk b9 (.cells (txL exAB).toArray 9 (0, 0))])))) := ⟨_, TalZ.app (⟨[], rfl, rfl⟩ : TalZ TX [m3] ct0 [] _) hzt30, Hp.putZ2 (A := []) h31a⟩
 have hO35 := hd26.mono Le.kk
 have hi36 : (Wr.base p21 tb22).inn [m3] ([] ++ tl23) := ⟨hto28, fun i hi q hq => htl29 i hi q hq⟩
 refine RL.callF rfl hH34 (c_tally_Meter_Wrap (Kz (Kw w) (Zq25 ++ ([Ent.blk b14 (.cells ([(⟨2, .slice (some ⟨b9, 0, none⟩) 2 2, exAB, Rl.none⟩ : Fac)].flatMap facL).toArray 58 (0, 0))] ++ [Ent.blk b9 (.cells (txL exAB).toArray 9 (0, 0))]))) m3 _ _ _ _ _ (hH34.kz (Le.refl _) (fun x hx => (List.mem_append_right _ hx))) hO35) (run_call2 call9 rfl rfl) <| fun v39 w40 Z42 hH41 hp43 => have hH44 : Hp _ w40 ((Z42 ++ (Zf32 ++ (Zq25 ++ ([Ent.blk b14 (.cells ([(⟨2, .slice (some ⟨b9, 0, none⟩) 2 2, exAB, Rl.none⟩ : Fac)].flatMap facL).toArray 58 (0, 0))] ++ [Ent.blk b9 (.cells (txL exAB).toArray 9 (0, 0))]))))) := hH41.zin (L := []) (L' := (Zf32 ++ (Zq25 ++ ([Ent.blk b14 (.cells ([(⟨2, .slice (some ⟨b9, 0, none⟩) 2 2, exAB, Rl.none⟩ : Fac)].flatMap facL).toArray 58 (0, 0))] ++ [Ent.blk b9 (.cells (txL exAB).toArray 9 (0, 0))])))); have hH46 : Hp _ w40 ((Zf32 ++ (Z42 ++ (Zq25 ++ ([Ent.blk b14 (.cells ([(⟨2, .slice (some ⟨b9, 0, none⟩) 2 2, exAB, Rl.none⟩ : Fac)].flatMap facL).toArray 58 (0, 0))] ++ [Ent.blk b9 (.cells (txL exAB).toArray 9 (0, 0))]))))) := Hp.swz (A := []) hH44; ?_
 obtain ⟨q147, q248, q349, q450, q551, q652, rfl, hw53⟩ := hp43
 refine RL.new rfl hH46 (f := fun b => (.pointer (some ⟨b, 0, none⟩))) (run_alloc zero_ops) <| fun b56 w54 hH55 => RL.set hH55 (i := 0) rfl (run_stW rfl rfl rfl (by simp [Value.oneCell', pt, fnV]) (hH55.blk (i := 0) rfl) rfl) <| fun w57 hH58 => ?_
 simp only [z2] at hH58
 refine RL.nil <| CW.seq <| SR <| V (run_ldA (cs := [_, _, _]) underlying35 rfl rfl rfl (rangeAt_cells (hH58.blk (i := 0) rfl))) <| RL.callP rfl hH58 (c_clearancelaw17_whole _ _ _ _ _ _ (hw53.mono Le.kk)) (run_call1 call10 rfl) <| fun w59 hH60 => V (run_not rfl) <| RL.nil <| CW.condF rfl <| CW.skip <| CW.seq <| have hJ17 := exJ (d := (Wr.wrap m3 (Wr.base p21 tb22))) (show (Wr.wrap m3 (Wr.base p21 tb22)).inn _ _ from ⟨by simp, hi36⟩) (hp27.trans rfl); CW.regionS (by kernel_rfl) hH60 (sP (sA sR)) <| fun w62 hH63 => have zh63 := hH63.sub (sP (sA sR)); AQ 0 rfl zh63 (fA underlying35 1 rfl sizeOf32 rfl) <| AT 1 rfl zh63 (fun w hS => run_ld underlying32 rfl rfl (hS.cell (i := 0) rfl (v := .func _ _ _) rfl)) <| AQ 2 rfl zh63 (run_bld (vs := [(0, U 1#64)]) rfl (built_el1 _)) <| AQ 3 rfl zh63 (run_bld (vs := [(0, U 3#64)]) rfl (built_el1 _)) <| AQ 5 rfl zh63 (fA underlying35 1 rfl sizeOf32 rfl) <| AT 6 rfl zh63 (fun w hS => run_ld underlying32 rfl rfl (hS.cell (i := 0) rfl (v := .func _ _ _) rfl)) <| AQ 7 rfl zh63 (run_bld (vs := [(0, U 2#64)]) rfl (built_el1 _)) <| AQ 8 rfl zh63 (run_bld (vs := [(0, U 1#64)]) rfl (built_el1 _)) <| AQ 10 rfl zh63 (fA underlying35 2 rfl sizeOf33 rfl) <| AT 11 rfl zh63 (fun w hS => run_ld underlying33 rfl rfl (hS.cell (i := 0) rfl (v := .func _ _ _) rfl)) <| AQ 12 rfl zh63 (run_bld (vs := [(0, U 1#64)]) rfl (built_el1 _)) <| AQ 13 rfl zh63 (run_bld (vs := [(0, U 2#64)]) rfl (built_el1 _)) <| AN.two 4 15 (by kernel_rfl) ?_ ?_
 ·obtain ⟨fq66, cq67, hq68, hfq69, hcq70⟩ := call_l w [m3] _ hT exE1 exE3 (Wr.wrap m3 (Wr.base p21 tb22)) _ ct0 _ ([_] ++ (Z42 ++ (Zq25 ++ ([Ent.blk b14 (.cells ([(⟨2, .slice (some ⟨b9, 0, none⟩) 2 2, exAB, Rl.none⟩ : Fac)].flatMap facL).toArray 58 (0, 0))] ++ [Ent.blk b9 (.cells (txL exAB).toArray 9 (0, 0))])))) _ _ _ _ ((hw53.mono Le.kk).mono (Le.zz fun y hy => List.mem_append_right _ hy)) (show (Wr.wrap m3 (Wr.base p21 tb22)).inn _ _ from ⟨by simp, hi36⟩) hZ33 OkC.zero (by simp only [Wr.dep]; omega) (Hp.frontZ (A := [_]) hH63)
  refine AO.callT rfl gnone rfl hcq70 (run_callC2 hfq69 (cs := cq67) hq68 rfl rfl) (fun u w' ⟨_, Z', _, h⟩ => Hp.sub (L := _ :: (Z' ++ (Z42 ++ (Zq25 ++ ([Ent.blk b14 (.cells ([(⟨2, .slice (some ⟨b9, 0, none⟩) 2 2, exAB, Rl.none⟩ : Fac)].flatMap facL).toArray 58 (0, 0))] ++ [Ent.blk b9 (.cells (txL exAB).toArray 9 (0, 0))]))))) (Hp.backZ (A := [_]) h) (sP (sA sR))) ?_
  rintro _ w71 ⟨rfl, Z72, hZ73, h74⟩
  have hH75 : Hp _ w71 (_ :: (Z72 ++ (Z42 ++ (Zq25 ++ ([Ent.blk b14 (.cells ([(⟨2, .slice (some ⟨b9, 0, none⟩) 2 2, exAB, Rl.none⟩ : Fac)].flatMap facL).toArray 58 (0, 0))] ++ [Ent.blk b9 (.cells (txL exAB).toArray 9 (0, 0))]))))) := Hp.backZ (A := [_]) h74
  refine AN.two 9 15 (by kernel_rfl) ?_ ?_
  ·obtain ⟨fq79, cq80, hq81, hfq82, hcq83⟩ := call_l w [m3] _ hT exE2 exE1 (Wr.wrap m3 (Wr.base p21 tb22)) _ ((Wr.wrap m3 (Wr.base p21 tb22)).tick .l ct0) _ ([_] ++ (Z42 ++ (Zq25 ++ ([Ent.blk b14 (.cells ([(⟨2, .slice (some ⟨b9, 0, none⟩) 2 2, exAB, Rl.none⟩ : Fac)].flatMap facL).toArray 58 (0, 0))] ++ [Ent.blk b9 (.cells (txL exAB).toArray 9 (0, 0))])))) _ _ _ _ ((hw53.mono Le.kk).mono (Le.zz fun y hy => List.mem_append_right _ hy)) (show (Wr.wrap m3 (Wr.base p21 tb22)).inn _ _ from ⟨by simp, hi36⟩) hZ73 (OkC.zero.ticks (d := (Wr.wrap m3 (Wr.base p21 tb22))) _) (by simp only [Wr.dep]; omega) (Hp.frontZ (A := [_]) hH75)
   refine AO.callT rfl gnone rfl hcq83 (run_callC2 hfq82 (cs := cq80) hq81 rfl rfl) (fun u w' ⟨_, Z', _, h⟩ => Hp.sub (L := _ :: (Z' ++ (Z42 ++ (Zq25 ++ ([Ent.blk b14 (.cells ([(⟨2, .slice (some ⟨b9, 0, none⟩) 2 2, exAB, Rl.none⟩ : Fac)].flatMap facL).toArray 58 (0, 0))] ++ [Ent.blk b9 (.cells (txL exAB).toArray 9 (0, 0))]))))) (Hp.backZ (A := [_]) h) (sP (sA sR))) ?_
   rintro _ w84 ⟨rfl, Z85, hZ86, h87⟩
   have hH88 : Hp _ w84 (_ :: (Z85 ++ (Z42 ++ (Zq25 ++ ([Ent.blk b14 (.cells ([(⟨2, .slice (some ⟨b9, 0, none⟩) 2 2, exAB, Rl.none⟩ : Fac)].flatMap facL).toArray 58 (0, 0))] ++ [Ent.blk b9 (.cells (txL exAB).toArray 9 (0, 0))]))))) := Hp.backZ (A := [_]) h87
   refine AN.two 14 15 (by kernel_rfl) ?_ ?_
   ·obtain ⟨fq92, cq93, hq94, hfq95, hcq96⟩ := call_j w [m3] _ hT exE1 exE2 (Wr.wrap m3 (Wr.base p21 tb22)) _ ((Wr.wrap m3 (Wr.base p21 tb22)).tick .l ((Wr.wrap m3 (Wr.base p21 tb22)).tick .l ct0)) _ ([_] ++ (Z42 ++ (Zq25 ++ ([Ent.blk b14 (.cells ([(⟨2, .slice (some ⟨b9, 0, none⟩) 2 2, exAB, Rl.none⟩ : Fac)].flatMap facL).toArray 58 (0, 0))] ++ [Ent.blk b9 (.cells (txL exAB).toArray 9 (0, 0))])))) _ _ _ _ ((hw53.mono Le.kk).mono (Le.zz fun y hy => List.mem_append_right _ hy)) (show (Wr.wrap m3 (Wr.base p21 tb22)).inn _ _ from ⟨by simp, hi36⟩) hZ86 ((OkC.zero.ticks (d := (Wr.wrap m3 (Wr.base p21 tb22))) _).ticks (d := (Wr.wrap m3 (Wr.base p21 tb22))) _) (by simp only [Wr.dep]; omega) (Hp.frontZ (A := [_]) hH88)
    refine AO.callT rfl gnone rfl hcq96 (run_callC2 hfq95 (cs := cq93) hq94 rfl rfl) (fun u w' ⟨_, Z', _, h⟩ => Hp.sub (L := _ :: (Z' ++ (Z42 ++ (Zq25 ++ ([Ent.blk b14 (.cells ([(⟨2, .slice (some ⟨b9, 0, none⟩) 2 2, exAB, Rl.none⟩ : Fac)].flatMap facL).toArray 58 (0, 0))] ++ [Ent.blk b9 (.cells (txL exAB).toArray 9 (0, 0))]))))) (Hp.backZ (A := [_]) h) (sP (sA sR))) ?_
    rintro _ w97 ⟨rfl, Z98, hZ99, h100⟩
    have hH101 : Hp _ w97 (_ :: (Z98 ++ (Z42 ++ (Zq25 ++ ([Ent.blk b14 (.cells ([(⟨2, .slice (some ⟨b9, 0, none⟩) 2 2, exAB, Rl.none⟩ : Fac)].flatMap facL).toArray 58 (0, 0))] ++ [Ent.blk b9 (.cells (txL exAB).toArray 9 (0, 0))]))))) := Hp.backZ (A := [_]) h100
    refine A1 15 <| AO.new rfl gnone rfl hH101 (sP (sA sR)) (f := fun b => .pointer (some ⟨b, 0, none⟩)) (run_alloc zero_el) <| fun b104 w102 hH103 => AQ 16 rfl (hH103.sub (sQ (sP (sA sR)))) (aV (B _) rfl) <| AQ 17 rfl (hH103.sub (sQ (sP (sA sR)))) (aV (B _) rfl) <| A1 18 <| AO.set rfl gnone hH103 (j := 0) rfl (sQ (sP (sA sR))) (run_stEl rfl rfl rfl (hH103.blk (i := 0) rfl)) <| fun w107 hH108 => ?_
    simp only [z2] at hH108
    refine AD <| SR <| mB rfl <| mB rfl <| gT rfl (bR (c := true) (exL1)) <| mB rfl <| gT rfl (bR (c := true) (exL1)) <| V (run_not (bR (c := false) (exL2))) <| V (run_pickT (bR (c := true) (exL1)) (v := B _) rfl) <| mB rfl <| gT rfl rfl <| V (run_ldEl underlying43 rfl rfl rfl (hH108.blk (i := 0) rfl)) <| gT rfl rfl <| V (run_bld (vs := [(0, U 3#64)]) rfl (built_el1 _)) <| gT rfl rfl <| V (run_eqlEl elT_fact rfl rfl) <| V (run_pickT rfl (v := B _) rfl) <| mB rfl <| gT rfl (bT (hJ17)) <| vm (v := Pn _ _) rfl <| gT rfl (bT (hJ17)) <| RL.callP rfl hH108 (m_Read (m := m3) (by simp) hZ99 hH108 (fun x hx => (mT (mT (List.mem_append_left _ hx))))) (run_call1 call12 rfl) <| fun w110 hH111 => gT rfl (bT (hJ17)) <| V (run_bld (vs := [(1, I _), (2, I _)]) rfl (built_cnt12 _ _)) <| gT rfl (bT (hJ17)) <| V (run_eqlT (cnt_same (by simp [Wr.tick, tick1, putM, Kd.up, ct0, cn0]) (by simp [Wr.tick, tick1, putM, Kd.up, ct0, cn0]) (by simp [Wr.tick, tick1, putM, Kd.up, ct0, cn0])) rfl rfl) <| V (run_pickT (bT (hJ17)) (v := B _) rfl) <| aB rfl <| RL.nil <| CW.ret <| outP1 Tryd.results6 (congrArg B ?_) hH111.below
    rfl
   ·refine AO.new rfl gnone rfl hH88 (sP (sA sR)) (f := fun b => .pointer (some ⟨b, 0, none⟩)) (run_alloc zero_el) <| fun b114 w112 hH113 => A1 14 <| ?_
    obtain ⟨fq117, cq118, hq119, hfq120, hcq121⟩ := call_j w [m3] _ hT exE1 exE2 (Wr.wrap m3 (Wr.base p21 tb22)) _ ((Wr.wrap m3 (Wr.base p21 tb22)).tick .l ((Wr.wrap m3 (Wr.base p21 tb22)).tick .l ct0)) _ ([_, _] ++ (Z42 ++ (Zq25 ++ ([Ent.blk b14 (.cells ([(⟨2, .slice (some ⟨b9, 0, none⟩) 2 2, exAB, Rl.none⟩ : Fac)].flatMap facL).toArray 58 (0, 0))] ++ [Ent.blk b9 (.cells (txL exAB).toArray 9 (0, 0))])))) _ _ _ _ ((hw53.mono Le.kk).mono (Le.zz fun y hy => List.mem_append_right _ hy)) (show (Wr.wrap m3 (Wr.base p21 tb22)).inn _ _ from ⟨by simp, hi36⟩) hZ86 ((OkC.zero.ticks (d := (Wr.wrap m3 (Wr.base p21 tb22))) _).ticks (d := (Wr.wrap m3 (Wr.base p21 tb22))) _) (by simp only [Wr.dep]; omega) (Hp.frontZ (A := [_, _]) hH113)
    refine AO.callT rfl gnone rfl hcq121 (run_callC2 hfq120 (cs := cq118) hq119 rfl rfl) (fun u w' ⟨_, Z', _, h⟩ => Hp.sub (L := _ :: _ :: (Z' ++ (Z42 ++ (Zq25 ++ ([Ent.blk b14 (.cells ([(⟨2, .slice (some ⟨b9, 0, none⟩) 2 2, exAB, Rl.none⟩ : Fac)].flatMap facL).toArray 58 (0, 0))] ++ [Ent.blk b9 (.cells (txL exAB).toArray 9 (0, 0))]))))) (Hp.backZ (A := [_, _]) h) (sQ (sP (sA sR)))) ?_
    rintro _ w122 ⟨rfl, Z123, hZ124, h125⟩
    have hH126 : Hp _ w122 (_ :: _ :: (Z123 ++ (Z42 ++ (Zq25 ++ ([Ent.blk b14 (.cells ([(⟨2, .slice (some ⟨b9, 0, none⟩) 2 2, exAB, Rl.none⟩ : Fac)].flatMap facL).toArray 58 (0, 0))] ++ [Ent.blk b9 (.cells (txL exAB).toArray 9 (0, 0))]))))) := Hp.backZ (A := [_, _]) h125
    refine AQ 16 rfl (hH126.sub (sQ (sP (sA sR)))) (aV (B _) rfl) <| AQ 17 rfl (hH126.sub (sQ (sP (sA sR)))) (aV (B _) rfl) <| A1 18 <| AO.set rfl gnone hH126 (j := 0) rfl (sQ (sP (sA sR))) (run_stEl rfl rfl rfl (hH126.blk (i := 0) rfl)) <| fun w129 hH130 => ?_
    simp only [z2] at hH130
    refine AD <| SR <| mB rfl <| mB rfl <| gT rfl (bR (c := true) (exL1)) <| mB rfl <| gT rfl (bR (c := true) (exL1)) <| V (run_not (bR (c := false) (exL2))) <| V (run_pickT (bR (c := true) (exL1)) (v := B _) rfl) <| mB rfl <| gT rfl rfl <| V (run_ldEl underlying43 rfl rfl rfl (hH130.blk (i := 0) rfl)) <| gT rfl rfl <| V (run_bld (vs := [(0, U 3#64)]) rfl (built_el1 _)) <| gT rfl rfl <| V (run_eqlEl elT_fact rfl rfl) <| V (run_pickT rfl (v := B _) rfl) <| mB rfl <| gT rfl (bT (hJ17)) <| vm (v := Pn _ _) rfl <| gT rfl (bT (hJ17)) <| RL.callP rfl hH130 (m_Read (m := m3) (by simp) hZ124 hH130 (fun x hx => (mT (mT (List.mem_append_left _ hx))))) (run_call1 call12 rfl) <| fun w132 hH133 => gT rfl (bT (hJ17)) <| V (run_bld (vs := [(1, I _), (2, I _)]) rfl (built_cnt12 _ _)) <| gT rfl (bT (hJ17)) <| V (run_eqlT (cnt_same (by simp [Wr.tick, tick1, putM, Kd.up, ct0, cn0]) (by simp [Wr.tick, tick1, putM, Kd.up, ct0, cn0]) (by simp [Wr.tick, tick1, putM, Kd.up, ct0, cn0])) rfl rfl) <| V (run_pickT (bT (hJ17)) (v := B _) rfl) <| aB rfl <| RL.nil <| CW.ret <| outP1 Tryd.results6 (congrArg B ?_) hH133.below
    rfl
  ·refine AO.new rfl gnone rfl hH75 (sP (sA sR)) (f := fun b => .pointer (some ⟨b, 0, none⟩)) (run_alloc zero_el) <| fun b136 w134 hH135 => A1 9 <| ?_
   obtain ⟨fq139, cq140, hq141, hfq142, hcq143⟩ := call_l w [m3] _ hT exE2 exE1 (Wr.wrap m3 (Wr.base p21 tb22)) _ ((Wr.wrap m3 (Wr.base p21 tb22)).tick .l ct0) _ ([_, _] ++ (Z42 ++ (Zq25 ++ ([Ent.blk b14 (.cells ([(⟨2, .slice (some ⟨b9, 0, none⟩) 2 2, exAB, Rl.none⟩ : Fac)].flatMap facL).toArray 58 (0, 0))] ++ [Ent.blk b9 (.cells (txL exAB).toArray 9 (0, 0))])))) _ _ _ _ ((hw53.mono Le.kk).mono (Le.zz fun y hy => List.mem_append_right _ hy)) (show (Wr.wrap m3 (Wr.base p21 tb22)).inn _ _ from ⟨by simp, hi36⟩) hZ73 (OkC.zero.ticks (d := (Wr.wrap m3 (Wr.base p21 tb22))) _) (by simp only [Wr.dep]; omega) (Hp.frontZ (A := [_, _]) hH135)
   refine AO.callT rfl gnone rfl hcq143 (run_callC2 hfq142 (cs := cq140) hq141 rfl rfl) (fun u w' ⟨_, Z', _, h⟩ => Hp.sub (L := _ :: _ :: (Z' ++ (Z42 ++ (Zq25 ++ ([Ent.blk b14 (.cells ([(⟨2, .slice (some ⟨b9, 0, none⟩) 2 2, exAB, Rl.none⟩ : Fac)].flatMap facL).toArray 58 (0, 0))] ++ [Ent.blk b9 (.cells (txL exAB).toArray 9 (0, 0))]))))) (Hp.backZ (A := [_, _]) h) (sQ (sP (sA sR)))) ?_
   rintro _ w144 ⟨rfl, Z145, hZ146, h147⟩
   have hH148 : Hp _ w144 (_ :: _ :: (Z145 ++ (Z42 ++ (Zq25 ++ ([Ent.blk b14 (.cells ([(⟨2, .slice (some ⟨b9, 0, none⟩) 2 2, exAB, Rl.none⟩ : Fac)].flatMap facL).toArray 58 (0, 0))] ++ [Ent.blk b9 (.cells (txL exAB).toArray 9 (0, 0))]))))) := Hp.backZ (A := [_, _]) h147
   refine A1 14 ?_
   obtain ⟨fq152, cq153, hq154, hfq155, hcq156⟩ := call_j w [m3] _ hT exE1 exE2 (Wr.wrap m3 (Wr.base p21 tb22)) _ ((Wr.wrap m3 (Wr.base p21 tb22)).tick .l ((Wr.wrap m3 (Wr.base p21 tb22)).tick .l ct0)) _ ([_, _] ++ (Z42 ++ (Zq25 ++ ([Ent.blk b14 (.cells ([(⟨2, .slice (some ⟨b9, 0, none⟩) 2 2, exAB, Rl.none⟩ : Fac)].flatMap facL).toArray 58 (0, 0))] ++ [Ent.blk b9 (.cells (txL exAB).toArray 9 (0, 0))])))) _ _ _ _ ((hw53.mono Le.kk).mono (Le.zz fun y hy => List.mem_append_right _ hy)) (show (Wr.wrap m3 (Wr.base p21 tb22)).inn _ _ from ⟨by simp, hi36⟩) hZ146 ((OkC.zero.ticks (d := (Wr.wrap m3 (Wr.base p21 tb22))) _).ticks (d := (Wr.wrap m3 (Wr.base p21 tb22))) _) (by simp only [Wr.dep]; omega) (Hp.frontZ (A := [_, _]) hH148)
   refine AO.callT rfl gnone rfl hcq156 (run_callC2 hfq155 (cs := cq153) hq154 rfl rfl) (fun u w' ⟨_, Z', _, h⟩ => Hp.sub (L := _ :: _ :: (Z' ++ (Z42 ++ (Zq25 ++ ([Ent.blk b14 (.cells ([(⟨2, .slice (some ⟨b9, 0, none⟩) 2 2, exAB, Rl.none⟩ : Fac)].flatMap facL).toArray 58 (0, 0))] ++ [Ent.blk b9 (.cells (txL exAB).toArray 9 (0, 0))]))))) (Hp.backZ (A := [_, _]) h) (sQ (sP (sA sR)))) ?_
   rintro _ w157 ⟨rfl, Z158, hZ159, h160⟩
   have hH161 : Hp _ w157 (_ :: _ :: (Z158 ++ (Z42 ++ (Zq25 ++ ([Ent.blk b14 (.cells ([(⟨2, .slice (some ⟨b9, 0, none⟩) 2 2, exAB, Rl.none⟩ : Fac)].flatMap facL).toArray 58 (0, 0))] ++ [Ent.blk b9 (.cells (txL exAB).toArray 9 (0, 0))]))))) := Hp.backZ (A := [_, _]) h160
   refine AQ 16 rfl (hH161.sub (sQ (sP (sA sR)))) (aV (B _) rfl) <| AQ 17 rfl (hH161.sub (sQ (sP (sA sR)))) (aV (B _) rfl) <| A1 18 <| AO.set rfl gnone hH161 (j := 0) rfl (sQ (sP (sA sR))) (run_stEl rfl rfl rfl (hH161.blk (i := 0) rfl)) <| fun w164 hH165 => ?_
   simp only [z2] at hH165
   refine AD <| SR <| mB rfl <| mB rfl <| gT rfl (bR (c := true) (exL1)) <| mB rfl <| gT rfl (bR (c := true) (exL1)) <| V (run_not (bR (c := false) (exL2))) <| V (run_pickT (bR (c := true) (exL1)) (v := B _) rfl) <| mB rfl <| gT rfl rfl <| V (run_ldEl underlying43 rfl rfl rfl (hH165.blk (i := 0) rfl)) <| gT rfl rfl <| V (run_bld (vs := [(0, U 3#64)]) rfl (built_el1 _)) <| gT rfl rfl <| V (run_eqlEl elT_fact rfl rfl) <| V (run_pickT rfl (v := B _) rfl) <| mB rfl <| gT rfl (bT (hJ17)) <| vm (v := Pn _ _) rfl <| gT rfl (bT (hJ17)) <| RL.callP rfl hH165 (m_Read (m := m3) (by simp) hZ159 hH165 (fun x hx => (mT (mT (List.mem_append_left _ hx))))) (run_call1 call12 rfl) <| fun w167 hH168 => gT rfl (bT (hJ17)) <| V (run_bld (vs := [(1, I _), (2, I _)]) rfl (built_cnt12 _ _)) <| gT rfl (bT (hJ17)) <| V (run_eqlT (cnt_same (by simp [Wr.tick, tick1, putM, Kd.up, ct0, cn0]) (by simp [Wr.tick, tick1, putM, Kd.up, ct0, cn0]) (by simp [Wr.tick, tick1, putM, Kd.up, ct0, cn0])) rfl rfl) <| V (run_pickT (bT (hJ17)) (v := B _) rfl) <| aB rfl <| RL.nil <| CW.ret <| outP1 Tryd.results6 (congrArg B ?_) hH168.below
   rfl
 ·refine AO.new rfl gnone rfl hH63 (sP (sA sR)) (f := fun b => .pointer (some ⟨b, 0, none⟩)) (run_alloc zero_el) <| fun b171 w169 hH170 => A1 4 <| ?_
  obtain ⟨fq174, cq175, hq176, hfq177, hcq178⟩ := call_l w [m3] _ hT exE1 exE3 (Wr.wrap m3 (Wr.base p21 tb22)) _ ct0 _ ([_, _] ++ (Z42 ++ (Zq25 ++ ([Ent.blk b14 (.cells ([(⟨2, .slice (some ⟨b9, 0, none⟩) 2 2, exAB, Rl.none⟩ : Fac)].flatMap facL).toArray 58 (0, 0))] ++ [Ent.blk b9 (.cells (txL exAB).toArray 9 (0, 0))])))) _ _ _ _ ((hw53.mono Le.kk).mono (Le.zz fun y hy => List.mem_append_right _ hy)) (show (Wr.wrap m3 (Wr.base p21 tb22)).inn _ _ from ⟨by simp, hi36⟩) hZ33 OkC.zero (by simp only [Wr.dep]; omega) (Hp.frontZ (A := [_, _]) hH170)
  refine AO.callT rfl gnone rfl hcq178 (run_callC2 hfq177 (cs := cq175) hq176 rfl rfl) (fun u w' ⟨_, Z', _, h⟩ => Hp.sub (L := _ :: _ :: (Z' ++ (Z42 ++ (Zq25 ++ ([Ent.blk b14 (.cells ([(⟨2, .slice (some ⟨b9, 0, none⟩) 2 2, exAB, Rl.none⟩ : Fac)].flatMap facL).toArray 58 (0, 0))] ++ [Ent.blk b9 (.cells (txL exAB).toArray 9 (0, 0))]))))) (Hp.backZ (A := [_, _]) h) (sQ (sP (sA sR)))) ?_
  rintro _ w179 ⟨rfl, Z180, hZ181, h182⟩
  have hH183 : Hp _ w179 (_ :: _ :: (Z180 ++ (Z42 ++ (Zq25 ++ ([Ent.blk b14 (.cells ([(⟨2, .slice (some ⟨b9, 0, none⟩) 2 2, exAB, Rl.none⟩ : Fac)].flatMap facL).toArray 58 (0, 0))] ++ [Ent.blk b9 (.cells (txL exAB).toArray 9 (0, 0))]))))) := Hp.backZ (A := [_, _]) h182
  refine A1 9 ?_
  obtain ⟨fq187, cq188, hq189, hfq190, hcq191⟩ := call_l w [m3] _ hT exE2 exE1 (Wr.wrap m3 (Wr.base p21 tb22)) _ ((Wr.wrap m3 (Wr.base p21 tb22)).tick .l ct0) _ ([_, _] ++ (Z42 ++ (Zq25 ++ ([Ent.blk b14 (.cells ([(⟨2, .slice (some ⟨b9, 0, none⟩) 2 2, exAB, Rl.none⟩ : Fac)].flatMap facL).toArray 58 (0, 0))] ++ [Ent.blk b9 (.cells (txL exAB).toArray 9 (0, 0))])))) _ _ _ _ ((hw53.mono Le.kk).mono (Le.zz fun y hy => List.mem_append_right _ hy)) (show (Wr.wrap m3 (Wr.base p21 tb22)).inn _ _ from ⟨by simp, hi36⟩) hZ181 (OkC.zero.ticks (d := (Wr.wrap m3 (Wr.base p21 tb22))) _) (by simp only [Wr.dep]; omega) (Hp.frontZ (A := [_, _]) hH183)
  refine AO.callT rfl gnone rfl hcq191 (run_callC2 hfq190 (cs := cq188) hq189 rfl rfl) (fun u w' ⟨_, Z', _, h⟩ => Hp.sub (L := _ :: _ :: (Z' ++ (Z42 ++ (Zq25 ++ ([Ent.blk b14 (.cells ([(⟨2, .slice (some ⟨b9, 0, none⟩) 2 2, exAB, Rl.none⟩ : Fac)].flatMap facL).toArray 58 (0, 0))] ++ [Ent.blk b9 (.cells (txL exAB).toArray 9 (0, 0))]))))) (Hp.backZ (A := [_, _]) h) (sQ (sP (sA sR)))) ?_
  rintro _ w192 ⟨rfl, Z193, hZ194, h195⟩
  have hH196 : Hp _ w192 (_ :: _ :: (Z193 ++ (Z42 ++ (Zq25 ++ ([Ent.blk b14 (.cells ([(⟨2, .slice (some ⟨b9, 0, none⟩) 2 2, exAB, Rl.none⟩ : Fac)].flatMap facL).toArray 58 (0, 0))] ++ [Ent.blk b9 (.cells (txL exAB).toArray 9 (0, 0))]))))) := Hp.backZ (A := [_, _]) h195
  refine A1 14 ?_
  obtain ⟨fq200, cq201, hq202, hfq203, hcq204⟩ := call_j w [m3] _ hT exE1 exE2 (Wr.wrap m3 (Wr.base p21 tb22)) _ ((Wr.wrap m3 (Wr.base p21 tb22)).tick .l ((Wr.wrap m3 (Wr.base p21 tb22)).tick .l ct0)) _ ([_, _] ++ (Z42 ++ (Zq25 ++ ([Ent.blk b14 (.cells ([(⟨2, .slice (some ⟨b9, 0, none⟩) 2 2, exAB, Rl.none⟩ : Fac)].flatMap facL).toArray 58 (0, 0))] ++ [Ent.blk b9 (.cells (txL exAB).toArray 9 (0, 0))])))) _ _ _ _ ((hw53.mono Le.kk).mono (Le.zz fun y hy => List.mem_append_right _ hy)) (show (Wr.wrap m3 (Wr.base p21 tb22)).inn _ _ from ⟨by simp, hi36⟩) hZ194 ((OkC.zero.ticks (d := (Wr.wrap m3 (Wr.base p21 tb22))) _).ticks (d := (Wr.wrap m3 (Wr.base p21 tb22))) _) (by simp only [Wr.dep]; omega) (Hp.frontZ (A := [_, _]) hH196)
  refine AO.callT rfl gnone rfl hcq204 (run_callC2 hfq203 (cs := cq201) hq202 rfl rfl) (fun u w' ⟨_, Z', _, h⟩ => Hp.sub (L := _ :: _ :: (Z' ++ (Z42 ++ (Zq25 ++ ([Ent.blk b14 (.cells ([(⟨2, .slice (some ⟨b9, 0, none⟩) 2 2, exAB, Rl.none⟩ : Fac)].flatMap facL).toArray 58 (0, 0))] ++ [Ent.blk b9 (.cells (txL exAB).toArray 9 (0, 0))]))))) (Hp.backZ (A := [_, _]) h) (sQ (sP (sA sR)))) ?_
  rintro _ w205 ⟨rfl, Z206, hZ207, h208⟩
  have hH209 : Hp _ w205 (_ :: _ :: (Z206 ++ (Z42 ++ (Zq25 ++ ([Ent.blk b14 (.cells ([(⟨2, .slice (some ⟨b9, 0, none⟩) 2 2, exAB, Rl.none⟩ : Fac)].flatMap facL).toArray 58 (0, 0))] ++ [Ent.blk b9 (.cells (txL exAB).toArray 9 (0, 0))]))))) := Hp.backZ (A := [_, _]) h208
  refine AQ 16 rfl (hH209.sub (sQ (sP (sA sR)))) (aV (B _) rfl) <| AQ 17 rfl (hH209.sub (sQ (sP (sA sR)))) (aV (B _) rfl) <| A1 18 <| AO.set rfl gnone hH209 (j := 0) rfl (sQ (sP (sA sR))) (run_stEl rfl rfl rfl (hH209.blk (i := 0) rfl)) <| fun w212 hH213 => ?_
  simp only [z2] at hH213
  refine AD <| SR <| mB rfl <| mB rfl <| gT rfl (bR (c := true) (exL1)) <| mB rfl <| gT rfl (bR (c := true) (exL1)) <| V (run_not (bR (c := false) (exL2))) <| V (run_pickT (bR (c := true) (exL1)) (v := B _) rfl) <| mB rfl <| gT rfl rfl <| V (run_ldEl underlying43 rfl rfl rfl (hH213.blk (i := 0) rfl)) <| gT rfl rfl <| V (run_bld (vs := [(0, U 3#64)]) rfl (built_el1 _)) <| gT rfl rfl <| V (run_eqlEl elT_fact rfl rfl) <| V (run_pickT rfl (v := B _) rfl) <| mB rfl <| gT rfl (bT (hJ17)) <| vm (v := Pn _ _) rfl <| gT rfl (bT (hJ17)) <| RL.callP rfl hH213 (m_Read (m := m3) (by simp) hZ207 hH213 (fun x hx => (mT (mT (List.mem_append_left _ hx))))) (run_call1 call12 rfl) <| fun w215 hH216 => gT rfl (bT (hJ17)) <| V (run_bld (vs := [(1, I _), (2, I _)]) rfl (built_cnt12 _ _)) <| gT rfl (bT (hJ17)) <| V (run_eqlT (cnt_same (by simp [Wr.tick, tick1, putM, Kd.up, ct0, cn0]) (by simp [Wr.tick, tick1, putM, Kd.up, ct0, cn0]) (by simp [Wr.tick, tick1, putM, Kd.up, ct0, cn0])) rfl rfl) <| V (run_pickT (bT (hJ17)) (v := B _) rfl) <| aB rfl <| RL.nil <| CW.ret <| outP1 Tryd.results6 (congrArg B ?_) hH216.below
  rfl
end Go.Proofs.YtdfbimlpondblaaDoor.W
