/-
  The walks of the functions that the laws of this seat reach, part 2: each returns what its plain counterpart tells, and turns nothing that was there.
-/
import Derived.Test.YtieckcbckgalhaaGreatDoorProg
import Derived.Test.YtieckcbckgalhaaGreatDoorEnv
import Derived.Test.YtieckcbckgalhaaGreatDoorPlain
import Derived.Test.YtieckcbckgalhaaGreatDoorBase
import Derived.Test.YtieckcbckgalhaaGreatDoorOrd
import Derived.Test.YtieckcbckgalhaaGreatDoorRel
import Derived.Test.YtieckcbckgalhaaGreatDoorClo
import Derived.Test.YtieckcbckgalhaaGreatDoorCov
import Derived.Test.YtieckcbckgalhaaGreatDoorArr
import Derived.Test.YtieckcbckgalhaaGreatDoorHas
import Derived.Test.YtieckcbckgalhaaGreatDoorGrd
import Derived.Test.YtieckcbckgalhaaGreatDoorStr
import Derived.Test.YtieckcbckgalhaaGreatDoorVu
import Derived.Test.YtieckcbckgalhaaGreatDoorShp
import Derived.Test.YtieckcbckgalhaaGreatDoorShl
import Derived.Test.YtieckcbckgalhaaGreatDoorShq
import Derived.Test.YtieckcbckgalhaaGreatDoorShr
import Derived.Test.YtieckcbckgalhaaGreatDoorCut
import Derived.Test.YtieckcbckgalhaaGreatDoorRec
import Derived.Test.YtieckcbckgalhaaGreatDoorOut
import Derived.Test.YtieckcbckgalhaaGreatDoorScp
import Derived.Test.YtieckcbckgalhaaGreatDoorScq
import Derived.Test.YtieckcbckgalhaaGreatDoorByt
import Derived.Test.YtieckcbckgalhaaGreatDoorNod
import Derived.Test.YtieckcbckgalhaaGreatDoorSpl
import Derived.Test.YtieckcbckgalhaaGreatDoorSpb
import Derived.Test.YtieckcbckgalhaaGreatDoorSpt
import Derived.Test.YtieckcbckgalhaaGreatDoorSpn
import Derived.Test.YtieckcbckgalhaaGreatDoorSpx
import Derived.Test.YtieckcbckgalhaaGreatDoorSpy
import Derived.Test.YtieckcbckgalhaaGreatDoorMk
import Derived.Test.YtieckcbckgalhaaGreatDoorAsn
import Derived.Test.YtieckcbckgalhaaGreatDoorAsp
import Derived.Test.YtieckcbckgalhaaGreatDoorAsr
import Derived.Test.YtieckcbckgalhaaGreatDoorAst
import Derived.Test.YtieckcbckgalhaaGreatDoorMin
import Derived.Test.YtieckcbckgalhaaGreatDoorAssignTellsPacesA
namespace Go.Proofs.YtieckcbckgalhaaGreatDoor.W
open Go Go.RowKit Go.Proofs.YtieckcbckgalhaaGreatDoor.E Go.Proofs.YtieckcbckgalhaaGreatDoor.M
set_option linter.unusedVariables false
set_option linter.unusedSimpArgs false
set_option maxRecDepth 100000
open Tryz
theorem c_clearanceref02_Right (s : Tx) (w : World) : Calls Tryz.prog 49 #[S s] w (Pure (B (nameR s)) w) := by
 refine enter Tryz.func49 rfl Tryz.ntmps49 rfl <| have hH := Hp.start w; SR <| va (v := B false) rfl <| RL.nil <| CW.seq <| SR <| vm (v := .string _) rfl <| V (run_lenStr rfl underlying9 rfl) <| V (run_lss rfl rfl) <| mB rfl <| RL.splitP (dj := 7) rfl (fun h2 => ?_) (fun h2 => ?_)
 ·refine gF rfl (bT h2) <| gF rfl (bT h2) <| gF rfl (bT h2) <| V (run_pickT (bT h2) (v := B true) rfl) <| mB rfl <| gF rfl rfl <| gF rfl rfl <| gF rfl rfl <| gF rfl rfl <| V (run_pickT rfl (v := B true) rfl) <| RL.nil <| CW.condT rfl <| SR <| va (v := B false) rfl <| RL.nil <| CW.ret <| outP1 Tryz.results49 (congrArg B ?_) hH.below
  exact (nameR_no1 (by omega)).symm
 ·refine gT rfl (bF h2) <| vm (v := .string _) rfl <| gT rfl (bF h2) <| V (run_lenStr rfl underlying9 rfl) <| gT rfl (bF h2) <| V (run_gtr rfl rfl) <| V (run_pickF (bF h2) (v := B _) rfl) <| mB rfl <| RL.splitP (dj := 12) rfl (fun h4 => ?_) (fun h4 => ?_)
  ·refine gF rfl (bT h4) <| gF rfl (bT h4) <| gF rfl (bT h4) <| gF rfl (bT h4) <| V (run_pickT (bT h4) (v := B true) rfl) <| RL.nil <| CW.condT rfl <| SR <| va (v := B false) rfl <| RL.nil <| CW.ret <| outP1 Tryz.results49 (congrArg B ?_) hH.below
   exact (nameR_no1 (by omega)).symm
  ·refine gT rfl (bF h4) <| vm (v := .string _) rfl <| gT rfl (bF h4) <| V (run_idxS underlying9 rfl rfl (by omega)) <| gT rfl (bF h4) <| RL.callP rfl hH (c_clearanceref02_letter _  _) (run_call1 call72 rfl) <| fun w5 hH6 => gT rfl (bF h4) <| V (run_not rfl) <| V (run_pickF (bF h4) (v := B _) rfl) <| RL.nil <| CW.cond rfl (fun h9 => ?_) (fun h9 => ?_)
   ·refine SR <| va (v := B false) rfl <| RL.nil <| CW.ret <| outP1 Tryz.results49 (congrArg B ?_) hH6.below
    exact (nameR_no2 (nt ‹_›)).symm
   ·refine CW.skip <| CW.seq <| SR <| va (v := I 1) rfl <| RL.nil <| CW.block <| have hsz : 1 ≤ s.size ∧ s.size ≤ 16 := (by omega); have hlt : letterB (byteAt s 0) = true := nf ‹_›; CW.loop (G := Int) (fun k s' w' => (Fr (2 :: 3 :: (rg 18 29 [])) _ s') ∧ (Hp w w' _) ∧ (s' 3 = I k) ∧ (1 ≤ k) ∧ (k ≤ s.size) ∧ (∀ j : Int, 0 ≤ j → j < k → goesB (byteAt s j) = true)) (fun k => (s.size - k).toNat) (1) ⟨Fr.refl _ _, hH6, rfl, (by omega), (by omega), fun j a b => by rw [show j = 0 by omega]; exact goes_letter hlt⟩ <| ?_
    rintro k sg10 w10 ⟨fr10, hH10, e3_10, h0, hk, hf⟩
    have e0_10 := fr10.ss 0 rfl rfl
    refine CW.seq <| SR <| vm e3_10 <| vm e0_10 <| V (run_lenStr rfl underlying9 rfl) <| V (run_lss rfl rfl) <| RL.nil <| CW.condP rfl (fun h12 => ?_) (fun h12 => ?_)
    ·refine CW.skip <| CW.seq <| CW.block <| SR <| vm e0_10 <| vm e3_10 <| V (run_idxS underlying9 rfl rfl (by omega)) <| RL.callP rfl hH10 (c_clearanceref02_letter _  _) (run_call1 call72 rfl) <| fun w13 hH14 => V (run_not rfl) <| mB rfl <| RL.split (dj := 29) rfl (fun h17 => ?_) (fun h17 => ?_)
     ·refine gT rfl (bR (c := true) h17) <| vm e0_10 <| gT rfl (bR (c := true) h17) <| vm e3_10 <| gT rfl (bR (c := true) h17) <| V (run_idxS underlying9 rfl rfl (by omega)) <| gT rfl (bR (c := true) h17) <| V (run_lss rfl rfl) <| gT rfl (bR (c := true) h17) <| mB rfl <| RL.splitP (dj := 34) rfl (fun h19 => ?_) (fun h19 => ?_)
      ·refine gF rfl (bT h19) <| gF rfl (bT h19) <| gF rfl (bT h19) <| gF rfl (bT h19) <| gT rfl (bR (c := true) h17) <| V (run_pickT (bT h19) (v := B true) rfl) <| V (run_pickT (bR (c := true) h17) (v := B _) rfl) <| mB rfl <| gT rfl rfl <| vm e0_10 <| gT rfl rfl <| vm e3_10 <| gT rfl rfl <| V (run_idxS underlying9 rfl rfl (by omega)) <| gT rfl rfl <| V (run_neq rfl rfl) <| V (run_pickT rfl (v := B _) rfl) <| RL.nil <| CW.condP rfl (fun h21 => ?_) (fun h21 => ?_)
       ·refine SR <| va (v := B false) rfl <| RL.nil <| CW.ret <| outP1 Tryz.results49 (congrArg B ?_) hH14.below
        exact (nameR_no3 (i := k) (by omega) ‹_› (by have hlc := nt ‹(!letterB (byteAt s k)) = true›; rw [letterB, decide_eq_false_iff_not] at hlc; rw [goesB, decide_eq_false_iff_not]; omega)).symm
       ·refine CW.skip <| CW.region <| vm e3_10 <| V (run_add rfl rfl (by omega)) <| aI rfl <| RL.nil <| ?_
        refine ⟨k + 1, ?_, fr10.u4.u4.u4.u4.u4.u4.u4.u1.u1, hH14, (congrArg I (by rfl)), ?_, ?_, ?_⟩
        ·((try dsimp only); omega)
        ·omega
        ·omega
        ·exact fun j a b => if e : j = k then e ▸ (by rw [goesB, decide_eq_true_eq]; omega) else hf j a (by omega)
      ·refine gT rfl (bF h19) <| vm e0_10 <| gT rfl (bF h19) <| vm e3_10 <| gT rfl (bF h19) <| V (run_idxS underlying9 rfl rfl (by omega)) <| gT rfl (bF h19) <| V (run_gtr rfl rfl) <| gT rfl (bR (c := true) h17) <| V (run_pickF (bF h19) (v := B _) rfl) <| V (run_pickT (bR (c := true) h17) (v := B _) rfl) <| mB rfl <| RL.splitP (dj := 41) rfl (fun h23 => ?_) (fun h23 => ?_)
       ·refine gT rfl (bT h23) <| vm e0_10 <| gT rfl (bT h23) <| vm e3_10 <| gT rfl (bT h23) <| V (run_idxS underlying9 rfl rfl (by omega)) <| gT rfl (bT h23) <| V (run_neq rfl rfl) <| V (run_pickT (bT h23) (v := B _) rfl) <| RL.nil <| CW.condP rfl (fun h25 => ?_) (fun h25 => ?_)
        ·refine SR <| va (v := B false) rfl <| RL.nil <| CW.ret <| outP1 Tryz.results49 (congrArg B ?_) hH14.below
         exact (nameR_no3 (i := k) (by omega) ‹_› (by have hlc := nt ‹(!letterB (byteAt s k)) = true›; rw [letterB, decide_eq_false_iff_not] at hlc; rw [goesB, decide_eq_false_iff_not]; omega)).symm
        ·refine CW.skip <| CW.region <| vm e3_10 <| V (run_add rfl rfl (by omega)) <| aI rfl <| RL.nil <| ?_
         refine ⟨k + 1, ?_, fr10.u4.u4.u4.u4.u4.u4.u4.u1.u1, hH14, (congrArg I (by rfl)), ?_, ?_, ?_⟩
         ·((try dsimp only); omega)
         ·omega
         ·omega
         ·exact fun j a b => if e : j = k then e ▸ (by rw [goesB, decide_eq_true_eq]; omega) else hf j a (by omega)
       ·refine gF rfl (bF h23) <| gF rfl (bF h23) <| gF rfl (bF h23) <| gF rfl (bF h23) <| V (run_pickF (bF h23) (v := B false) rfl) <| RL.nil <| CW.condF rfl <| CW.skip <| CW.region <| vm e3_10 <| V (run_add rfl rfl (by omega)) <| aI rfl <| RL.nil <| ?_
        refine ⟨k + 1, ?_, fr10.u4.u4.u4.u4.u4.u4.u4.u1.u1, hH14, (congrArg I (by rfl)), ?_, ?_, ?_⟩
        ·((try dsimp only); omega)
        ·omega
        ·omega
        ·exact fun j a b => if e : j = k then e ▸ (by rw [goesB, decide_eq_true_eq]; omega) else hf j a (by omega)
     ·refine gF rfl (bR (c := false) h17) <| gF rfl (bR (c := false) h17) <| gF rfl (bR (c := false) h17) <| gF rfl (bR (c := false) h17) <| gF rfl (bR (c := false) h17) <| RL.gU rfl rfl rfl <| RL.gU rfl rfl rfl <| RL.gU rfl rfl rfl <| RL.gU rfl rfl rfl <| gF rfl (bR (c := false) h17) <| V (run_pickF (bR (c := false) h17) (v := B false) rfl) <| mB rfl <| gF rfl rfl <| gF rfl rfl <| gF rfl rfl <| gF rfl rfl <| V (run_pickF rfl (v := B false) rfl) <| RL.nil <| CW.condF rfl <| CW.skip <| CW.region <| vm e3_10 <| V (run_add rfl rfl (by omega)) <| aI rfl <| RL.nil <| ?_
      refine ⟨k + 1, ?_, fr10.u4.u4.u4.u4.u4.u4.u4.u1.u1, hH14, (congrArg I (by rfl)), ?_, ?_, ?_⟩
      ·((try dsimp only); omega)
      ·omega
      ·omega
      ·exact fun j a b => if e : j = k then e ▸ (by exact goes_letter (nf ‹_›)) else hf j a (by omega)
    ·refine CW.exit (id := 0) rfl <| SR <| va (v := B true) rfl <| RL.nil <| CW.ret <| outP1 Tryz.results49 (congrArg B ?_) hH10.below
     exact (nameR_yes hsz hlt ‹_› hf).symm
theorem c_name_place (n : Int) (f : FuncId) (cs : List Value) (P : Int → Bool) (hn : 0 ≤ n ∧ n ≤ 9223372036854775807) (w : World) (hf : ∀ args w, (callFunc f args).run Tryz.prog w = .ok (.enter f args) w) (go : ∀ i w', Below w.heap.size w w' → 0 ≤ i → i < n → Calls Tryz.prog f (I i :: cs).toArray w' (Pure (B (P i)) w')) : Calls Tryz.prog 151 #[I 0, I n, .func (.func f) #[] cs.toArray] w (Pure (I (findV P n)) w) := by
 refine enter Tryz.func151 rfl Tryz.ntmps151 rfl <| have hH := Hp.start w; SR <| va (v := I 0) rfl <| RL.nil <| CW.seq <| SR <| mI rfl <| aI rfl <| RL.nil <| CW.block <| CW.loop (G := Int) (fun k s' w' => (Fr (6 :: 7 :: (rg 9 9 [])) _ s') ∧ (Hp w w' _) ∧ (s' 7 = I k) ∧ (0 ≤ k) ∧ (k ≤ n) ∧ (∀ j : Int, 0 ≤ j → j < k → P j = false)) (fun k => (n - k).toNat) (0) ⟨Fr.refl _ _, hH, rfl, (by omega), (by omega), fun j a b => absurd b (by omega)⟩ <| ?_
 rintro k sg1 w1 ⟨fr1, hH1, e7_1, h0, hk, hg⟩
 have e1_1 := fr1.ii 1 rfl rfl
 have e2_1 := fr1.vv 2 (a := .func _ _ _) rfl rfl
 refine CW.seq <| SR <| vm e7_1 <| vm e1_1 <| V (run_lss rfl rfl) <| RL.nil <| CW.condP rfl (fun h3 => ?_) (fun h3 => ?_)
 ·refine CW.skip <| CW.seq <| CW.block <| SR <| vm e2_1 <| vm e7_1 <| RL.callP rfl hH1 (go _ _ hH1.below (by omega) (by omega)) (run_callC1 hf (cs := cs) rfl rfl) <| fun w4 hH5 => RL.nil <| CW.cond rfl (fun h7 => ?_) (fun h7 => ?_)
  ·refine SR <| vm e7_1 <| aI rfl <| RL.nil <| CW.ret <| outP1 Tryz.results151 (congrArg I ?_) hH5.below
   exact (find_yes h0 ‹_› ‹_› hg).symm
  ·refine CW.skip <| CW.region <| vm e7_1 <| V (run_add rfl rfl (by omega)) <| aI rfl <| RL.nil <| ?_
   refine ⟨k + 1, ?_, fr1.u4.u4.u1, hH5, (congrArg I (by rfl)), ?_, ?_, ?_⟩
   ·((try dsimp only); omega)
   ·omega
   ·omega
   ·exact fun j a b => if e : j = k then e ▸ ‹P k = false› else hg j a (by omega)
 ·refine CW.exit (id := 0) rfl <| SR <| va (v := I (-1)) rfl <| RL.nil <| CW.ret <| outP1 Tryz.results151 (congrArg I ?_) hH1.below
  exact (find_no fun j a b => hg j a (by omega)).symm
theorem c_name_Find_1 (b c : Nat) (v : Value) (l : List Tx) (s : Tx) (i : Int) (hi : 0 ≤ i ∧ i < l.length) (w : World) (hs : Sl w v 1 l.length (txL l)) (hb : w.heap[b]? = some (.cells #[v] 54 (0, 0))) (hc : w.heap[c]? = some (.cells #[S s] 9 (0, 0))) : Calls Tryz.prog 161 #[I i, .pointer (some ⟨b, 0, none⟩), .pointer (some ⟨c, 0, none⟩)] w (Pure (B (decide (l.getD i.toNat tx0 = s))) w) := by
 have hm := hs.small
 unfold maxLen at hm
 refine enter Tryz.func161 rfl Tryz.ntmps161 rfl <| have hH := Hp.start w; SR <| va (v := B false) rfl <| RL.nil <| CW.seq <| CW.regionD (by kernel_rfl) hH <| fun w1 hH2 => have zh2 := hH2.sub sR; AT 0 rfl zh2 (fun w hS => run_ld underlying54 rfl rfl (hS.extCell hb rfl)) <| AQ 1 rfl zh2 (mV (I _) rfl) <| AT 2 rfl zh2 (fun w hS => run_indexAddrS (hs.hp hS) underlying54 sizeOf9 rfl rfl (by omega)) <| AT 3 rfl zh2 (fun w hS => run_ld underlying9 rfl rfl ((hs.hp hS).cell _ _ (txL_at (by omega)))) <| AT 4 rfl zh2 (fun w hS => run_ld underlying9 rfl rfl (hS.extCell hc (v := .string _) rfl)) <| AQ 5 rfl zh2 (run_eqlS rfl rfl) <| AQ 6 rfl zh2 (aV (B _) rfl) <| AD <| CW.ret <| outP1 Tryz.results161 (congrArg B ?_) hH2.below
 rfl
theorem c_name_Find (v : Value) (l : List Tx) (s : Tx) (w : World) (hs : Sl w v 1 l.length (txL l)) : Calls Tryz.prog 153 #[v, S s] w (Pure (I (nfind l s)) w) := by
 have hm := hs.small
 unfold maxLen at hm
 refine enter Tryz.func153 rfl Tryz.ntmps153 rfl <| have hH := Hp.start w; SR <| ?_
 refine RL.new rfl hH (f := fun b => (.pointer (some ⟨b, 0, none⟩))) (run_box (by conv => lhs; whnf)) ?_
 intro b3 w1 hH2
 rw [(one_sl hs).2] at hH2
 refine RL.new rfl hH2 (f := fun b => (.pointer (some ⟨b, 0, none⟩))) (run_box (v := .string _) rfl) <| fun b6 w4 hH5 => va (v := I 0) rfl <| RL.nil <| SR <| V (run_ld underlying54 rfl rfl (hH5.cell (i := 1) rfl rfl)) <| V (run_lenSl (hs.hp hH5) rfl underlying54 rfl) <| ?_
 refine V (run_mkF2 (by conv => lhs; whnf) (by conv => lhs; whnf)) ?_
 refine RL.callP rfl hH5 (c_name_place _ 161 [.pointer (some ⟨b3, 0, none⟩), .pointer (some ⟨b6, 0, none⟩)] (fun i => decide (l.getD i.toNat tx0 = s)) (by omega) _ call161 (fun i w h h0 h1 => c_name_Find_1 b3 b6 v l s i ⟨h0, h1⟩ w ((hs.hp hH5).below h) (keep h (hH5.blk (i := 1) rfl)) (keep h (hH5.blk (i := 0) rfl)))) (run_call3 call151 (show _ = I 0 from rfl) rfl rfl) <| fun w7 hH8 => aI rfl <| RL.nil <| CW.ret <| outP1 Tryz.results153 (congrArg I ?_) hH8.below
 rfl
theorem c_name_Twice_1 (b : Nat) (v : Value) (l : List Tx) (i : Int) (hi : 0 ≤ i ∧ i < l.length) (w : World) (hs : Sl w v 1 l.length (txL l)) (hb : w.heap[b]? = some (.cells #[v] 54 (0, 0))) : Calls Tryz.prog 152 #[I i, .pointer (some ⟨b, 0, none⟩)] w (Pure (B (decide (nfind l (l.getD i.toNat tx0) < i))) w) := by
 have hm := hs.small
 unfold maxLen at hm
 refine enter Tryz.func152 rfl Tryz.ntmps152 rfl <| have hH := Hp.start w; SR <| va (v := B false) rfl <| RL.nil <| CW.seq <| CW.regionD (by kernel_rfl) hH <| fun w1 hH2 => have zh2 := hH2.sub sR; AT 0 rfl zh2 (fun w hS => run_ld underlying54 rfl rfl (hS.extCell hb rfl)) <| AQ 1 rfl zh2 (mV (I _) rfl) <| AT 3 rfl zh2 (fun w hS => run_ld underlying54 rfl rfl (hS.extCell hb rfl)) <| AQ 4 rfl zh2 (mV (I _) rfl) <| AT 5 rfl zh2 (fun w hS => run_indexAddrS (hs.hp hS) underlying54 sizeOf9 rfl rfl (by omega)) <| AT 6 rfl zh2 (fun w hS => run_ld underlying9 rfl rfl ((hs.hp hS).cell _ _ (txL_at (by omega)))) <| A1 2 <| AO.read rfl gnone rfl hH2 sR (run_cut (hs.hp hH2) underlying54 sizeOf9 rfl rfl (by omega)) <| A1 7 <| AO.callP rfl gnone rfl hH2 sR (c_name_Find _ _ _  _ ((hs.hp hH2).cutT (by omega))) (run_call2 call153 rfl rfl) <| fun w5 hH6 => AQ 8 rfl (hH6.sub sR) (run_geq rfl rfl) <| AQ 9 rfl (hH6.sub sR) (aV (B _) rfl) <| AD <| CW.ret <| outP1 Tryz.results152 (congrArg B ?_) hH6.below
 exact tx_ahead hi.1 hi.2
theorem c_name_Twice (v : Value) (l : List Tx) (w : World) (hs : Sl w v 1 l.length (txL l)) : Calls Tryz.prog 129 #[v] w (Pure (I (twice l)) w) := by
 have hm := hs.small
 unfold maxLen at hm
 refine enter Tryz.func129 rfl Tryz.ntmps129 rfl <| have hH := Hp.start w; SR <| ?_
 refine RL.new rfl hH (f := fun b => (.pointer (some ⟨b, 0, none⟩))) (run_box (by conv => lhs; whnf)) ?_
 intro b3 w1 hH2
 rw [(one_sl hs).2] at hH2
 refine va (v := I 0) rfl <| RL.nil <| SR <| V (run_ld underlying54 rfl rfl (hH2.cell (i := 0) rfl rfl)) <| V (run_lenSl (hs.hp hH2) rfl underlying54 rfl) <| ?_
 refine V (run_mkF1 (by conv => lhs; whnf)) ?_
 refine RL.callP rfl hH2 (c_name_place _ 152 [.pointer (some ⟨b3, 0, none⟩)] (fun i => decide (nfind l (l.getD i.toNat tx0) < i)) (by omega) _ call152 (fun i w h h0 h1 => c_name_Twice_1 b3 v l i ⟨h0, h1⟩ w ((hs.hp hH2).below h) (keep h (hH2.blk (i := 0) rfl)))) (run_call3 call151 (show _ = I 0 from rfl) rfl rfl) <| fun w4 hH5 => aI rfl <| RL.nil <| CW.ret <| outP1 Tryz.results129 (congrArg I ?_) hH5.below
 rfl
theorem c_clearanceref02_Find (v : Value) (l : List Tx) (s : Tx) (w : World) (hs : Sl w v 1 l.length (txL l)) : Calls Tryz.prog 73 #[v, S s] w (Pure (I (nfind l s)) w) := by
 have hm := hs.small
 unfold maxLen at hm
 refine enter Tryz.func73 rfl Tryz.ntmps73 rfl <| have hH := Hp.start w; SR <| va (v := I 0) rfl <| RL.nil <| CW.seq <| SR <| va (v := I 0) rfl <| RL.nil <| CW.block <| CW.loop (G := Int) (fun k s' w' => (Fr (rg 4 15 []) _ s') ∧ (Hp w w' _) ∧ (s' 5 = I k) ∧ (0 ≤ k) ∧ (k ≤ l.length) ∧ (∀ j : Int, 0 ≤ j → j < k → decide (l.getD j.toNat tx0 = s) = false)) (fun k => (l.length - k).toNat) (0) ⟨Fr.refl _ _, hH, rfl, (by omega), (by omega), fun j a b => absurd b (by omega)⟩ <| ?_
 rintro k sg1 w1 ⟨fr1, hH1, e5_1, h0, hk, hg⟩
 have e0_1 := (fr1 0 rfl).trans (by conv => lhs; whnf)
 have e1_1 := fr1.ss 1 rfl rfl
 refine CW.seq <| SR <| vm e5_1 <| vm e0_1 <| V (run_lenSl (hs.hp hH1) rfl underlying54 rfl) <| V (run_lss rfl rfl) <| RL.nil <| CW.condP rfl (fun h3 => ?_) (fun h3 => ?_)
 ·refine CW.skip <| CW.seq <| CW.block <| SR <| vm e0_1 <| vm e5_1 <| V (run_indexAddrS (hs.hp hH1) underlying54 sizeOf9 rfl rfl (by omega)) <| V (run_ld underlying9 rfl rfl ((hs.hp hH1).cell _ _ (txL_at (by omega)))) <| vm e1_1 <| V (run_eqlS rfl rfl) <| RL.nil <| CW.condP rfl (fun h5 => ?_) (fun h5 => ?_)
  ·refine SR <| vm e5_1 <| aI rfl <| RL.nil <| CW.ret <| outP1 Tryz.results73 (congrArg I ?_) hH1.below
   exact (find_yes h0 ‹_› (decide_eq_true ‹_›) hg).symm
  ·refine CW.skip <| CW.region <| vm e5_1 <| V (run_add rfl rfl (by omega)) <| aI rfl <| RL.nil <| ?_
   refine ⟨k + 1, ?_, fr1.u4.u4.u4.u1, hH1, (congrArg I (by rfl)), ?_, ?_, ?_⟩
   ·((try dsimp only); omega)
   ·omega
   ·omega
   ·exact fun j a b => if e : j = k then e ▸ decide_eq_false ‹_› else hg j a (by omega)
 ·refine CW.exit (id := 0) rfl <| SR <| va (v := I (-1)) rfl <| RL.nil <| CW.ret <| outP1 Tryz.results73 (congrArg I ?_) hH1.below
  exact (find_no fun j a b => hg j a (by omega)).symm
theorem c_clearanceref02_Twice (v : Value) (l : List Tx) (w : World) (hs : Sl w v 1 l.length (txL l)) : Calls Tryz.prog 50 #[v] w (Pure (I (twice l)) w) := by
 have hm := hs.small
 unfold maxLen at hm
 refine enter Tryz.func50 rfl Tryz.ntmps50 rfl <| have hH := Hp.start w; SR <| va (v := I 0) rfl <| RL.nil <| CW.seq <| SR <| va (v := I 0) rfl <| RL.nil <| CW.block <| CW.loop (G := Int) (fun k s' w' => (Fr (rg 2 17 []) _ s') ∧ (Hp w w' _) ∧ (s' 3 = I k) ∧ (0 ≤ k) ∧ (k ≤ l.length) ∧ (∀ j : Int, 0 ≤ j → j < k → decide (nfind l (l.getD j.toNat tx0) < j) = false)) (fun k => (l.length - k).toNat) (0) ⟨Fr.refl _ _, hH, rfl, (by omega), (by omega), fun j a b => absurd b (by omega)⟩ <| ?_
 rintro k sg1 w1 ⟨fr1, hH1, e3_1, h0, hk, hg⟩
 have e0_1 := (fr1 0 rfl).trans (by conv => lhs; whnf)
 refine CW.seq <| SR <| vm e3_1 <| vm e0_1 <| V (run_lenSl (hs.hp hH1) rfl underlying54 rfl) <| V (run_lss rfl rfl) <| RL.nil <| CW.condP rfl (fun h3 => ?_) (fun h3 => ?_)
 ·refine CW.skip <| CW.seq <| CW.block <| SR <| vm e0_1 <| vm e0_1 <| vm e3_1 <| V (run_indexAddrS (hs.hp hH1) underlying54 sizeOf9 rfl rfl (by omega)) <| V (run_ld underlying9 rfl rfl ((hs.hp hH1).cell _ _ (txL_at (by omega)))) <| RL.callP rfl hH1 (c_clearanceref02_Find _ _ _  _ (hs.hp hH1)) (run_call2 call73 rfl rfl) <| fun w4 hH5 => vm e3_1 <| V (run_lss rfl rfl) <| RL.nil <| CW.condP rfl (fun h7 => ?_) (fun h7 => ?_)
  ·refine SR <| vm e3_1 <| aI rfl <| RL.nil <| CW.ret <| outP1 Tryz.results50 (congrArg I ?_) hH5.below
   exact (find_yes h0 ‹_› (decide_eq_true ‹_›) hg).symm
  ·refine CW.skip <| CW.region <| vm e3_1 <| V (run_add rfl rfl (by omega)) <| aI rfl <| RL.nil <| ?_
   refine ⟨k + 1, ?_, fr1.u4.u4.u4.u1.u1.u1, hH5, (congrArg I (by rfl)), ?_, ?_, ?_⟩
   ·((try dsimp only); omega)
   ·omega
   ·omega
   ·exact fun j a b => if e : j = k then e ▸ decide_eq_false ‹_› else hg j a (by omega)
 ·refine CW.exit (id := 0) rfl <| SR <| va (v := I (-1)) rfl <| RL.nil <| CW.ret <| outP1 Tryz.results50 (congrArg I ?_) hH1.below
  exact (find_no fun j a b => hg j a (by omega)).symm
theorem c_shape_named (v : Value) (l : List Tx) (w : World) (hs : Sl w v 1 l.length (txL l)) : Calls Tryz.prog 100 #[v] w (Pure (B (namedF l)) w) := by
 have hm := hs.small
 unfold maxLen at hm
 refine enter Tryz.func100 rfl Tryz.ntmps100 rfl <| have hH := Hp.start w; SR <| va (v := B false) rfl <| RL.nil <| CW.seq <| SR <| ?_
 refine V (run_move (by conv => lhs; whnf)) ?_
 refine V (run_lenSl (hs.hp hH) rfl underlying54 rfl) <| V (run_lss rfl rfl) <| mB rfl <| RL.splitP (dj := 8) rfl (fun h2 => ?_) (fun h2 => ?_)
 ·refine gF rfl (bT h2) <| gF rfl (bT h2) <| gF rfl (bT h2) <| V (run_pickT (bT h2) (v := B true) rfl) <| mB rfl <| gF rfl rfl <| gF rfl rfl <| gF rfl rfl <| V (run_pickT rfl (v := B true) rfl) <| RL.nil <| CW.condT rfl <| SR <| va (v := B false) rfl <| RL.nil <| CW.ret <| outP1 Tryz.results100 (congrArg B ?_) hH.below
  exact (named_no1 (by omega)).symm
 ·refine gT rfl (bF h2) ?_
  refine V (run_move (by conv => lhs; whnf)) ?_
  refine gT rfl (bF h2) <| V (run_lenSl (hs.hp hH) rfl underlying54 rfl) <| gT rfl (bF h2) <| V (run_gtr rfl rfl) <| V (run_pickF (bF h2) (v := B _) rfl) <| mB rfl <| RL.splitP (dj := 13) rfl (fun h4 => ?_) (fun h4 => ?_)
  ·refine gF rfl (bT h4) <| gF rfl (bT h4) <| gF rfl (bT h4) <| V (run_pickT (bT h4) (v := B true) rfl) <| RL.nil <| CW.condT rfl <| SR <| va (v := B false) rfl <| RL.nil <| CW.ret <| outP1 Tryz.results100 (congrArg B ?_) hH.below
   exact (named_no1 (by omega)).symm
  ·refine gT rfl (bF h4) ?_
   refine V (run_move (by conv => lhs; whnf)) ?_
   refine gT rfl (bF h4) <| RL.callP rfl hH (c_name_Twice _ _  _ (hs.hp hH)) (run_call1 call129 rfl) <| fun w5 hH6 => gT rfl (bF h4) <| V (run_geq rfl rfl) <| V (run_pickF (bF h4) (v := B _) rfl) <| RL.nil <| CW.condP rfl (fun h8 => ?_) (fun h8 => ?_)
   ·refine SR <| va (v := B false) rfl <| RL.nil <| CW.ret <| outP1 Tryz.results100 (congrArg B ?_) hH6.below
    exact (named_no2 (by omega)).symm
   ·refine CW.skip <| CW.seq <| SR <| ?_
    refine V (run_move (by conv => lhs; whnf)) ?_
    refine V (run_lenSl (hs.hp hH6) rfl underlying54 rfl) <| vm (v := I 0) rfl <| RL.nil <| CW.block <| have hn1 : 1 ≤ l.length ∧ l.length ≤ 64 := (by omega); have hn2 : twice l < 0 := (by omega); CW.loop (G := Int) (fun k s' w' => (Fr (2 :: (4 :: (rg 20 8 []))) _ s') ∧ (Hp w w' _) ∧ (s' 20 = I k) ∧ (0 ≤ k) ∧ (k ≤ l.length) ∧ (∀ j : Int, 0 ≤ j → j < k → nameR (l.getD j.toNat tx0) = true)) (fun k => (l.length - k).toNat) (0) ⟨Fr.refl _ _, hH6, rfl, (by omega), (by omega), fun j a b => absurd b (by omega)⟩ <| ?_
    rintro k sg9 w9 ⟨fr9, hH9, e20_9, h0, hk, hg⟩
    have e18_9 := (fr9 18 rfl).trans (by conv => lhs; whnf)
    have e19_9 := fr9.ii 19 rfl rfl
    refine SR <| V (run_lss e20_9 e19_9) <| RL.nil <| CW.seq <| CW.condP rfl (fun h11 => ?_) (fun h11 => ?_)
    ·refine CW.skip <| CW.seq <| CW.block <| SR <| V (run_indexAddrS (hs.hp hH9) underlying54 sizeOf9 e18_9 e20_9 (by omega)) <| V (run_ld underlying9 rfl rfl ((hs.hp hH9).cell _ _ (txL_at (by omega)))) <| va (v := .string _) rfl <| RL.nil <| SR <| vm (v := .string _) rfl <| RL.callP rfl hH9 (c_name_Right _  _) (run_call1 call55 rfl) <| fun w12 hH13 => V (run_not rfl) <| RL.nil <| CW.cond rfl (fun h16 => ?_) (fun h16 => ?_)
     ·refine SR <| va (v := B false) rfl <| RL.nil <| CW.ret <| outP1 Tryz.results100 (congrArg B ?_) hH13.below
      exact (named_no3 h0 ‹_› (nt ‹_›)).symm
     ·refine CW.skip <| CW.region <| V (run_add e20_9 rfl (by omega)) <| mI rfl <| RL.nil <| ?_
      refine ⟨k + 1, ?_, fr9.u4.u4.u1, hH13, (congrArg I (by rfl)), ?_, ?_, ?_⟩
      ·((try dsimp only); omega)
      ·omega
      ·omega
      ·exact fun j a b => if e : j = k then e ▸ nf ‹_› else hg j a (by omega)
    ·refine CW.exit (id := 0) rfl <| SR <| va (v := B true) rfl <| RL.nil <| CW.ret <| outP1 Tryz.results100 (congrArg B ?_) hH9.below
     exact (named_yes hn1 hn2 ‹_› hg).symm
theorem c_shape_factor (f : Fac) (w : World) (hf : FacV (Kw w) f) (hT : Tab w) : Calls Tryz.prog 74 #[.agg (facC f)] w (Pure (B (factorR f.fc)) w) := by
 have hm := hf.names.sl.small
 unfold maxLen at hm
 refine enter Tryz.func74 rfl Tryz.ntmps74 rfl <| have hH := Hp.start w; SR <| RL.new rfl hH (f := fun b => (.pointer (some ⟨b, 0, none⟩))) (run_box (v := .agg _) rfl) <| fun b3 w1 hH2 => va (v := B false) rfl <| RL.nil <| CW.seq <| SR <| V (fA underlying59 1 rfl sizeOf54 rfl) <| V (run_ld underlying54 rfl rfl (hH2.cell (i := 0) rfl rfl)) <| RL.callP rfl hH2 (c_shape_named _ _  _ (hf.names.sl.hp hH2)) (run_call1 call100 rfl) <| fun w4 hH5 => V (run_not rfl) <| RL.nil <| CW.cond rfl (fun h8 => ?_) (fun h8 => ?_)
 ·refine SR <| va (v := B false) rfl <| RL.nil <| CW.ret <| outP1 Tryz.results74 (congrArg B ?_) hH5.below
  exact (fac_no (f := f.fc) (nt ‹_›)).symm
 ·refine CW.skip <| CW.seq <| SR <| V (fA underlying59 0 rfl sizeOf3 rfl) <| V (run_ld underlying3 rfl rfl (hH5.cell (i := 0) rfl (v := I _) rfl)) <| RL.nil <| CW.block <| CW.seq <| SR <| V (run_eql rfl rfl) <| aB rfl <| RL.nil <| CW.condP rfl (fun h10 => ?_) (fun h10 => ?_)
  ·refine CW.skip <| CW.condT (bT h10) <| SR <| V (fA underlying59 2 rfl sizeOf57 rfl) <| V (run_ldBR underlying57 rfl rfl rfl (hH5.blk (i := 0) rfl)) <| V (run_bld (vs := []) rfl built_rel0) <| RL.callP rfl hH5 (c_relate_Same _ _  _) (run_call2 call101 rfl rfl) <| fun w11 hH12 => aB rfl <| RL.nil <| CW.ret <| outP1 Tryz.results74 (congrArg B ?_) hH12.below
   exact (fac_12s (f := f.fc) (nf ‹(!namedF f.names) = false›) (.inl ‹_›)).symm
  ·refine CW.region <| V (run_eql rfl rfl) <| aB rfl <| RL.nil <| CW.condP rfl (fun h16 => ?_) (fun h16 => ?_)
   ·refine SR <| V (fA underlying59 2 rfl sizeOf57 rfl) <| V (run_ldBR underlying57 rfl rfl rfl (hH5.blk (i := 0) rfl)) <| V (run_bld (vs := []) rfl built_rel0) <| RL.callP rfl hH5 (c_relate_Same _ _  _) (run_call2 call101 rfl rfl) <| fun w17 hH18 => aB rfl <| RL.nil <| CW.ret <| outP1 Tryz.results74 (congrArg B ?_) hH18.below
    exact (fac_12s (f := f.fc) (nf ‹(!namedF f.names) = false›) (.inr ‹_›)).symm
   ·refine SR <| V (run_eql rfl rfl) <| aB rfl <| RL.nil <| CW.condP rfl (fun h22 => ?_) (fun h22 => ?_)
    ·refine SR <| V (fA underlying59 2 rfl sizeOf57 rfl) <| V (fA underlying57 0 rfl sizeOf3 rfl) <| V (run_ld underlying3 rfl rfl (hH5.cell (i := 0) rfl (v := I _) rfl)) <| V (fA underlying59 1 rfl sizeOf54 rfl) <| V (run_ld underlying54 rfl rfl (hH5.cell (i := 0) rfl rfl)) <| V (run_lenSl (hf.names.sl.hp hH5) rfl underlying54 rfl) <| V (run_eql rfl rfl) <| mB rfl <| RL.splitP (dj := 25) rfl (fun h24 => ?_) (fun h24 => ?_)
     ·refine gT rfl (bT h24) <| V (fA underlying59 2 rfl sizeOf57 rfl) <| gT rfl (bT h24) <| V (run_ldBR underlying57 rfl rfl rfl (hH5.blk (i := 0) rfl)) <| gT rfl (bT h24) <| RL.callP rfl hH5 (c_grid_Right _  _) (run_call1 call102 rfl) <| fun w25 hH26 => V (run_pickT (bT h24) (v := B _) rfl) <| aB rfl <| RL.nil <| CW.ret <| outP1 Tryz.results74 (congrArg B ?_) hH26.below
      exact (fac_3y (f := f.fc) (nf ‹(!namedF f.names) = false›) ‹_› ‹_›).symm
     ·refine gF rfl (bF h24) <| gF rfl (bF h24) <| gF rfl (bF h24) <| V (run_pickF (bF h24) (v := B false) rfl) <| aB rfl <| RL.nil <| CW.ret <| outP1 Tryz.results74 (congrArg B ?_) hH5.below
      exact (fac_3n (f := f.fc) ‹_› ‹_›).symm
    ·refine SR <| V (run_eql rfl rfl) <| aB rfl <| RL.nil <| CW.condP rfl (fun h29 => ?_) (fun h29 => ?_)
     ·refine SR <| V (fA underlying59 2 rfl sizeOf57 rfl) <| V (fA underlying57 0 rfl sizeOf3 rfl) <| V (run_ld underlying3 rfl rfl (hH5.cell (i := 0) rfl (v := I _) rfl)) <| V (fA underlying59 1 rfl sizeOf54 rfl) <| V (run_ld underlying54 rfl rfl (hH5.cell (i := 0) rfl rfl)) <| V (run_lenSl (hf.names.sl.hp hH5) rfl underlying54 rfl) <| V (run_eql rfl rfl) <| mB rfl <| RL.splitP (dj := 39) rfl (fun h31 => ?_) (fun h31 => ?_)
      ·refine gT rfl (bT h31) <| V (fA underlying59 2 rfl sizeOf57 rfl) <| gT rfl (bT h31) <| V (run_ldBR underlying57 rfl rfl rfl (hH5.blk (i := 0) rfl)) <| gT rfl (bT h31) <| RL.callP rfl hH5 (c_hasse_Lattice _  _ (hT.hp hH5)) (run_call1 call103 rfl) <| fun w32 hH33 => V (run_pickT (bT h31) (v := B _) rfl) <| aB rfl <| RL.nil <| CW.ret <| outP1 Tryz.results74 (congrArg B ?_) hH33.below
       exact (fac_4y (f := f.fc) (nf ‹(!namedF f.names) = false›) ‹_› ‹_›).symm
      ·refine gF rfl (bF h31) <| gF rfl (bF h31) <| gF rfl (bF h31) <| V (run_pickF (bF h31) (v := B false) rfl) <| aB rfl <| RL.nil <| CW.ret <| outP1 Tryz.results74 (congrArg B ?_) hH5.below
       exact (fac_4n (f := f.fc) ‹_› ‹_›).symm
     ·refine CW.skip <| SR <| va (v := B false) rfl <| RL.nil <| CW.ret <| outP1 Tryz.results74 (congrArg B ?_) hH5.below
      exact (fac_x (f := f.fc) ‹_› ‹_› ‹_› ‹_›).symm
theorem c_shape_Right (s : Shp) (w : World) (hs : ShpV (Kw w) s) (hT : Tab w) : Calls Tryz.prog 53 #[.agg (shpC s)] w (Pure (B (shR s.sh)) w) := by
 have hsl := sh_len s
 have hm := hs.facs.sl.small
 unfold maxLen at hm
 refine enter Tryz.func53 rfl Tryz.ntmps53 rfl <| have hH := Hp.start w; SR <| RL.new rfl hH (f := fun b => (.pointer (some ⟨b, 0, none⟩))) (run_box (v := .agg _) rfl) <| fun b3 w1 hH2 => va (v := B false) rfl <| RL.nil <| SR <| V (fA underlying42 1 rfl sizeOf40 rfl) <| V (run_ld underlying40 rfl rfl (hH2.cell (i := 0) rfl rfl)) <| V (run_lenSl (hs.facs.sl.hp hH2) rfl underlying40 rfl) <| aI rfl <| RL.nil <| CW.seq <| SR <| mI rfl <| V (run_lss rfl rfl) <| mB rfl <| RL.splitP (dj := 11) rfl (fun h5 => ?_) (fun h5 => ?_)
 ·refine gF rfl (bT h5) <| gF rfl (bT h5) <| V (run_pickT (bT h5) (v := B true) rfl) <| mB rfl <| gF rfl rfl <| gF rfl rfl <| gF rfl rfl <| gF rfl rfl <| RL.gU rfl rfl rfl <| RL.gU rfl rfl rfl <| gF rfl rfl <| V (run_pickT rfl (v := B true) rfl) <| RL.nil <| CW.condT rfl <| SR <| va (v := B false) rfl <| RL.nil <| CW.ret <| outP1 Tryz.results53 (congrArg B ?_) hH2.below
  exact (shR_no1 (by omega)).symm
 ·refine gT rfl (bF h5) <| mI rfl <| gT rfl (bF h5) <| V (run_gtr rfl rfl) <| V (run_pickF (bF h5) (v := B _) rfl) <| mB rfl <| RL.splitP (dj := 15) rfl (fun h7 => ?_) (fun h7 => ?_)
  ·refine gF rfl (bT h7) <| gF rfl (bT h7) <| gF rfl (bT h7) <| gF rfl (bT h7) <| RL.gU rfl rfl rfl <| RL.gU rfl rfl rfl <| gF rfl (bT h7) <| V (run_pickT (bT h7) (v := B true) rfl) <| RL.nil <| CW.condT rfl <| SR <| va (v := B false) rfl <| RL.nil <| CW.ret <| outP1 Tryz.results53 (congrArg B ?_) hH2.below
   exact (shR_no1 (by omega)).symm
  ·refine gT rfl (bF h7) <| V (fA underlying42 0 rfl sizeOf4 rfl) <| gT rfl (bF h7) <| V (run_ld underlying4 rfl rfl (hH2.cell (i := 0) rfl (v := B _) rfl)) <| gT rfl (bF h7) <| V (run_not rfl) <| gT rfl (bF h7) <| mB rfl <| RL.split (dj := 19) rfl (fun h10 => ?_) (fun h10 => ?_)
   ·refine gT rfl (bR (c := true) h10) <| mI rfl <| gT rfl (bR (c := true) h10) <| V (run_neq rfl rfl) <| gT rfl (bF h7) <| V (run_pickT (bR (c := true) h10) (v := B _) rfl) <| V (run_pickF (bF h7) (v := B _) rfl) <| RL.nil <| CW.condP rfl (fun h12 => ?_) (fun h12 => ?_)
    ·refine SR <| va (v := B false) rfl <| RL.nil <| CW.ret <| outP1 Tryz.results53 (congrArg B ?_) hH2.below
     exact (shR_no2 (by exact nt ‹_›) (by omega)).symm
    ·refine CW.skip <| CW.seq <| SR <| V (fA underlying42 1 rfl sizeOf40 rfl) <| V (run_ld underlying40 rfl rfl (hH2.cell (i := 0) rfl rfl)) <| V (run_lenSl (hs.facs.sl.hp hH2) rfl underlying40 rfl) <| vm (v := I 0) rfl <| RL.nil <| CW.block <| have hc2 : s.sh.tuple = true ∨ s.sh.facs.length = 1 := (by exact .inr (by omega)); have hc1 : 1 ≤ s.facs.length ∧ s.facs.length ≤ 8 := (by omega); CW.loop (G := Int) (fun k s' w' => (Fr (2 :: (5 :: (rg 27 8 []))) _ s') ∧ (Hp w w' _) ∧ (s' 27 = I k) ∧ (0 ≤ k) ∧ (k ≤ s.facs.length) ∧ (∀ j : Int, 0 ≤ j → j < k → factorR (s.facs.getD j.toNat fac0).fc = true)) (fun k => (s.facs.length - k).toNat) (0) ⟨Fr.refl _ _, hH2, rfl, (by omega), (by omega), fun j a b => absurd b (by omega)⟩ <| ?_
     rintro k sg13 w13 ⟨fr13, hH13, e27_13, h0, hk, hg⟩
     have e25_13 := (fr13 25 rfl).trans (by conv => lhs; whnf)
     have e26_13 := fr13.ii 26 rfl rfl
     refine SR <| V (run_lss e27_13 e26_13) <| RL.nil <| CW.seq <| CW.condP rfl (fun h15 => ?_) (fun h15 => ?_)
     ·refine CW.skip <| CW.seq <| CW.block <| SR <| V (run_indexAddrS (hs.facs.sl.hp hH13) underlying40 sizeOf59 e25_13 e27_13 (by omega)) <| V (run_ldE (dv := fac0) facL_len (hs.facs.sl.hp hH13) underlying59 rfl rfl rfl (by omega)) <| RL.new rfl hH13 (f := fun b => (.pointer (some ⟨b, 0, none⟩))) (run_alloc zero_fac) <| fun b18 w16 hH17 => RL.set hH17 (i := 0) rfl (run_stFac (hs.at (by omega) (by omega)) rfl rfl rfl (hH17.blk (i := 0) rfl)) <| fun w19 hH20 => ?_
      simp only [z2] at hH20
      refine RL.nil <| SR <| V (run_ldFac underlying59 rfl rfl rfl (hH20.blk (i := 0) rfl)) <| RL.callP rfl hH20 (c_shape_factor _  _ ((hs.at (by omega) (by omega)).mono hH20.kw) (hT.hp hH20)) (run_call1 call74 rfl) <| fun w21 hH22 => V (run_not rfl) <| RL.nil <| CW.cond rfl (fun h25 => ?_) (fun h25 => ?_)
      ·refine SR <| va (v := B false) rfl <| RL.nil <| CW.ret <| outP1 Tryz.results53 (congrArg B ?_) hH22.below
       exact (shR_no3 (k := k) h0 (by omega) (by rw [sh_get]; exact nt ‹_›)).symm
      ·refine CW.skip <| CW.region <| V (run_add e27_13 rfl (by omega)) <| mI rfl <| RL.nil <| ?_
       refine ⟨k + 1, ?_, fr13.u4.u4.u1, (hH22.sub (sQ sR)), (congrArg I (by rfl)), ?_, ?_, ?_⟩
       ·((try dsimp only); omega)
       ·omega
       ·omega
       ·exact fun j a b => if e : j = k then e ▸ nf ‹_› else hg j a (by omega)
     ·refine CW.exit (id := 0) rfl <| SR <| va (v := B true) rfl <| RL.nil <| CW.ret <| outP1 Tryz.results53 (congrArg B ?_) hH13.below
      exact (shR_yes (k := k) (by omega) hc2 (by omega) fun j a b => by rw [sh_get]; exact hg j a b).symm
   ·refine gF rfl (bR (c := false) h10) <| gF rfl (bR (c := false) h10) <| gT rfl (bF h7) <| V (run_pickF (bR (c := false) h10) (v := B false) rfl) <| V (run_pickF (bF h7) (v := B _) rfl) <| RL.nil <| CW.condF rfl <| CW.skip <| CW.seq <| SR <| V (fA underlying42 1 rfl sizeOf40 rfl) <| V (run_ld underlying40 rfl rfl (hH2.cell (i := 0) rfl rfl)) <| V (run_lenSl (hs.facs.sl.hp hH2) rfl underlying40 rfl) <| vm (v := I 0) rfl <| RL.nil <| CW.block <| have hc2 : s.sh.tuple = true ∨ s.sh.facs.length = 1 := (by exact .inl (nf ‹(!s.tuple) = false›)); have hc1 : 1 ≤ s.facs.length ∧ s.facs.length ≤ 8 := (by omega); CW.loop (G := Int) (fun k s' w' => (Fr (2 :: (5 :: (rg 27 8 []))) _ s') ∧ (Hp w w' _) ∧ (s' 27 = I k) ∧ (0 ≤ k) ∧ (k ≤ s.facs.length) ∧ (∀ j : Int, 0 ≤ j → j < k → factorR (s.facs.getD j.toNat fac0).fc = true)) (fun k => (s.facs.length - k).toNat) (0) ⟨Fr.refl _ _, hH2, rfl, (by omega), (by omega), fun j a b => absurd b (by omega)⟩ <| ?_
    rintro k sg26 w26 ⟨fr26, hH26, e27_26, h0, hk, hg⟩
    have e25_26 := (fr26 25 rfl).trans (by conv => lhs; whnf)
    have e26_26 := fr26.ii 26 rfl rfl
    refine SR <| V (run_lss e27_26 e26_26) <| RL.nil <| CW.seq <| CW.condP rfl (fun h28 => ?_) (fun h28 => ?_)
    ·refine CW.skip <| CW.seq <| CW.block <| SR <| V (run_indexAddrS (hs.facs.sl.hp hH26) underlying40 sizeOf59 e25_26 e27_26 (by omega)) <| V (run_ldE (dv := fac0) facL_len (hs.facs.sl.hp hH26) underlying59 rfl rfl rfl (by omega)) <| RL.new rfl hH26 (f := fun b => (.pointer (some ⟨b, 0, none⟩))) (run_alloc zero_fac) <| fun b31 w29 hH30 => RL.set hH30 (i := 0) rfl (run_stFac (hs.at (by omega) (by omega)) rfl rfl rfl (hH30.blk (i := 0) rfl)) <| fun w32 hH33 => ?_
     simp only [z2] at hH33
     refine RL.nil <| SR <| V (run_ldFac underlying59 rfl rfl rfl (hH33.blk (i := 0) rfl)) <| RL.callP rfl hH33 (c_shape_factor _  _ ((hs.at (by omega) (by omega)).mono hH33.kw) (hT.hp hH33)) (run_call1 call74 rfl) <| fun w34 hH35 => V (run_not rfl) <| RL.nil <| CW.cond rfl (fun h38 => ?_) (fun h38 => ?_)
     ·refine SR <| va (v := B false) rfl <| RL.nil <| CW.ret <| outP1 Tryz.results53 (congrArg B ?_) hH35.below
      exact (shR_no3 (k := k) h0 (by omega) (by rw [sh_get]; exact nt ‹_›)).symm
     ·refine CW.skip <| CW.region <| V (run_add e27_26 rfl (by omega)) <| mI rfl <| RL.nil <| ?_
      refine ⟨k + 1, ?_, fr26.u4.u4.u1, (hH35.sub (sQ sR)), (congrArg I (by rfl)), ?_, ?_, ?_⟩
      ·((try dsimp only); omega)
      ·omega
      ·omega
      ·exact fun j a b => if e : j = k then e ▸ nf ‹_› else hg j a (by omega)
    ·refine CW.exit (id := 0) rfl <| SR <| va (v := B true) rfl <| RL.nil <| CW.ret <| outP1 Tryz.results53 (congrArg B ?_) hH26.below
     exact (shR_yes (k := k) (by omega) hc2 (by omega) fun j a b => by rw [sh_get]; exact hg j a b).symm
theorem c_shape_word (f : Fac) (s : BitVec 64) (w : World) (hf : FacV (Kw w) f) (hT : Tab w) : Calls Tryz.prog 54 #[.agg (facC f), U s] w (Pure (B (wordF f.fc s)) w) := by
 have hm := hf.names.sl.small
 unfold maxLen at hm
 refine enter Tryz.func54 rfl Tryz.ntmps54 rfl <| have hH := Hp.start w; SR <| RL.new rfl hH (f := fun b => (.pointer (some ⟨b, 0, none⟩))) (run_box (v := .agg _) rfl) <| fun b3 w1 hH2 => va (v := B false) rfl <| RL.nil <| CW.seq <| SR <| V (fA underlying59 0 rfl sizeOf3 rfl) <| V (run_ld underlying3 rfl rfl (hH2.cell (i := 0) rfl (v := I _) rfl)) <| RL.nil <| CW.block <| SR <| V (run_eql rfl rfl) <| aB rfl <| RL.nil <| CW.condP rfl (fun h5 => ?_) (fun h5 => ?_)
 ·refine SR <| V (fA underlying59 1 rfl sizeOf54 rfl) <| V (run_ld underlying54 rfl rfl (hH2.cell (i := 0) rfl rfl)) <| V (run_lenSl (hf.names.sl.hp hH2) rfl underlying54 rfl) <| mU rfl <| RL.callP rfl hH2 (c_rung_Right _ _  _) (run_call2 call75 rfl rfl) <| fun w6 hH7 => aB rfl <| RL.nil <| CW.ret <| outP1 Tryz.results54 (congrArg B ?_) hH7.below
  exact (word1 (f := f.fc) ‹_› s).symm
 ·refine SR <| V (run_eql rfl rfl) <| aB rfl <| RL.nil <| CW.condP rfl (fun h10 => ?_) (fun h10 => ?_)
  ·refine SR <| mU rfl <| V (fA underlying59 1 rfl sizeOf54 rfl) <| V (run_ld underlying54 rfl rfl (hH2.cell (i := 0) rfl rfl)) <| V (run_lenSl (hf.names.sl.hp hH2) rfl underlying54 rfl) <| RL.callP rfl hH2 (c_mask_Below _  _) (run_call1 call76 rfl) <| fun w11 hH12 => RL.callP rfl hH12 (c_mask_Sub _ _  _) (run_call2 call68 rfl rfl) <| fun w13 hH14 => aB rfl <| RL.nil <| CW.ret <| outP1 Tryz.results54 (congrArg B ?_) hH14.below
   exact (word2 (f := f.fc) ‹_› s).symm
  ·refine SR <| V (run_eql rfl rfl) <| aB rfl <| RL.nil <| CW.condP rfl (fun h17 => ?_) (fun h17 => ?_)
   ·refine SR <| V (fA underlying59 2 rfl sizeOf57 rfl) <| V (run_ldBR underlying57 rfl rfl rfl (hH2.blk (i := 0) rfl)) <| mU rfl <| RL.callP rfl hH2 (c_grid_Closed _ _  _ (hT.hp hH2)) (run_call2 call77 rfl rfl) <| fun w18 hH19 => aB rfl <| RL.nil <| CW.ret <| outP1 Tryz.results54 (congrArg B ?_) hH19.below
    exact (word3 (f := f.fc) ‹_› s).symm
   ·refine CW.skip <| SR <| V (fA underlying59 2 rfl sizeOf57 rfl) <| V (run_ldBR underlying57 rfl rfl rfl (hH2.blk (i := 0) rfl)) <| mU rfl <| RL.callP rfl hH2 (c_hasse_Point _ _  _ (hT.hp hH2)) (run_call2 call78 rfl rfl) <| fun w21 hH22 => ?_
    refine V (run_move (by conv => lhs; whnf)) ?_
    refine V (run_extract rfl (v := I _) rfl) <| V (run_extract rfl (v := B _) rfl) <| aI rfl <| aB rfl <| RL.nil <| SR <| mB rfl <| aB rfl <| RL.nil <| CW.ret <| outP1 Tryz.results54 (congrArg B ?_) hH22.below
    exact (wordx (f := f.fc) ‹_› ‹_› ‹_› s).symm
theorem c_shape_Fits (s : Shp) (e : El) (w : World) (hs : ShpV (Kw w) s) (hT : Tab w) : Calls Tryz.prog 24 #[.agg (shpC s), .agg (elC e)] w (Pure (B (fitsS s.sh e)) w) := by
 have hsl := sh_len s
 have hm := hs.facs.sl.small
 unfold maxLen at hm
 refine enter Tryz.func24 rfl Tryz.ntmps24 rfl <| have hH := Hp.start w; SR <| RL.new rfl hH (f := fun b => (.pointer (some ⟨b, 0, none⟩))) (run_box (v := .agg _) rfl) <| fun b3 w1 hH2 => RL.new rfl hH2 (f := fun b => (.pointer (some ⟨b, 0, none⟩))) (run_box (v := .agg _) rfl) <| fun b6 w4 hH5 => va (v := B false) rfl <| RL.nil <| CW.seq <| SR <| V (run_ldA (cs := [B _, _]) underlying42 rfl rfl rfl (rangeAt_cells (hH5.blk (i := 1) rfl))) <| RL.callP rfl hH5 (c_shape_Right _  _ (hs.mono hH5.kw) (hT.hp hH5)) (run_call1 call53 rfl) <| fun w7 hH8 => V (run_not rfl) <| RL.nil <| CW.cond rfl (fun h11 => ?_) (fun h11 => ?_)
 ·refine SR <| va (v := B false) rfl <| RL.nil <| CW.ret <| outP1 Tryz.results24 (congrArg B ?_) hH8.below
  exact (fits_no1 (nt ‹_›)).symm
 ·refine CW.skip <| CW.seq <| SR <| V (run_ldEl underlying51 rfl rfl rfl (hH8.blk (i := 0) rfl)) <| vm (v := I 0) rfl <| RL.nil <| CW.block <| have hr : shR s.sh = true := nf ‹_›; CW.loop (G := Int) (fun k s' w' => (Fr (rg 4 3 (rg 11 20 [])) _ s') ∧ (Hp w w' _) ∧ (s' 11 = I k) ∧ (0 ≤ k) ∧ (k ≤ 8) ∧ (FitTo s.sh e k)) (fun k => (8 - k).toNat) (0) ⟨Fr.refl _ _, hH8, rfl, (by omega), (by omega), FitTo.none _ _⟩ <| ?_
  rintro k sg12 w12 ⟨fr12, hH12, e11_12, h0, hk, hf⟩
  have e2_12 := fr12.pp 2 rfl rfl
  have e10_12 := fr12.aa 10 rfl rfl
  refine SR <| V (run_lss e11_12 rfl) <| RL.nil <| CW.seq <| CW.condP rfl (fun h14 => ?_) (fun h14 => ?_)
  ·refine CW.skip <| CW.seq <| CW.block <| SR <| vm e11_12 <| V (run_indexA underlying51 isAgg49 sizeOf49 e10_12 e11_12 (by omega) (elC_ix _ (by omega))) <| aI rfl <| aU rfl <| RL.nil <| CW.seq <| SR <| mI rfl <| V (fA underlying42 1 rfl sizeOf40 e2_12) <| V (run_ld underlying40 rfl rfl (hH12.cell (i := 1) rfl rfl)) <| V (run_lenSl (hs.facs.sl.hp hH12) rfl underlying40 rfl) <| V (run_geq rfl rfl) <| RL.nil <| CW.condP rfl (fun h16 => ?_) (fun h16 => ?_)
   ·refine CW.seq <| SR <| mU rfl <| V (run_neqU rfl (b := 0#64) rfl) <| RL.nil <| CW.condP rfl (fun h18 => ?_) (fun h18 => ?_)
    ·refine SR <| va (v := B false) rfl <| RL.nil <| CW.ret <| outP1 Tryz.results24 (congrArg B ?_) hH12.below
     exact (fits_no3 h0 ‹_› (by omega) ‹_›).symm
    ·refine CW.skip <| CW.exit (id := 1) rfl <| CW.region <| V (run_add e11_12 rfl (by omega)) <| mI rfl <| RL.nil <| ?_
     refine ⟨k + 1, ?_, fr12.u4.u4.u4.u1.u1, hH12, (congrArg I (by rfl)), ?_, ?_, ?_⟩
     ·((try dsimp only); omega)
     ·omega
     ·omega
     ·exact hf.next (fun h => by exfalso; omega) (fun h => by exact Decidable.of_not_not ‹_›)
   ·refine CW.skip <| SR <| V (fA underlying42 1 rfl sizeOf40 e2_12) <| V (run_ld underlying40 rfl rfl (hH12.cell (i := 1) rfl rfl)) <| mI rfl <| V (run_indexAddrS (hs.facs.sl.hp hH12) underlying40 sizeOf59 rfl rfl (by omega)) <| V (run_ldE (dv := fac0) facL_len (hs.facs.sl.hp hH12) underlying59 rfl rfl rfl (by omega)) <| mU rfl <| RL.callP rfl hH12 (c_shape_word _ _  _ ((hs.at (by omega) (by omega)).mono hH12.kw) (hT.hp hH12)) (run_call2 call54 rfl rfl) <| fun w19 hH20 => V (run_not rfl) <| RL.nil <| CW.cond rfl (fun h23 => ?_) (fun h23 => ?_)
    ·refine SR <| va (v := B false) rfl <| RL.nil <| CW.ret <| outP1 Tryz.results24 (congrArg B ?_) hH20.below
     exact (fits_no2 h0 ‹_› (by omega) (by rw [sh_get]; exact nt ‹_›)).symm
    ·refine CW.skip <| CW.region <| V (run_add e11_12 rfl (by omega)) <| mI rfl <| RL.nil <| ?_
     refine ⟨k + 1, ?_, fr12.u4.u4.u4.u4.u4, hH20, (congrArg I (by rfl)), ?_, ?_, ?_⟩
     ·((try dsimp only); omega)
     ·omega
     ·omega
     ·exact hf.next (fun h => by rw [sh_get]; exact nf ‹_›) (fun h => by exfalso; omega)
  ·refine CW.exit (id := 0) rfl <| SR <| va (v := B true) rfl <| RL.nil <| CW.ret <| outP1 Tryz.results24 (congrArg B ?_) hH12.below
   exact (fits_yes hr ‹_› hf).symm
theorem c_shape_Leq (a b : El) (w : World) : Calls Tryz.prog 37 #[.agg (elC a), .agg (elC b)] w (Pure (B (leqE a b)) w) := by
 refine enter Tryz.func37 rfl Tryz.ntmps37 rfl <| have hH := Hp.start w; SR <| RL.new rfl hH (f := fun b => (.pointer (some ⟨b, 0, none⟩))) (run_box (v := .agg _) rfl) <| fun b3 w1 hH2 => RL.new rfl hH2 (f := fun b => (.pointer (some ⟨b, 0, none⟩))) (run_box (v := .agg _) rfl) <| fun b6 w4 hH5 => va (v := B false) rfl <| RL.nil <| CW.seq <| SR <| vm (v := I 0) rfl <| RL.nil <| CW.block <| CW.loop (G := Int) (fun k s' w' => (Fr (rg 4 14 []) _ s') ∧ (Hp w w' _) ∧ (s' 6 = I k) ∧ (0 ≤ k) ∧ (k ≤ 8) ∧ (∀ j : Int, 0 ≤ j → j < k → subB (a j.toNat) (b j.toNat) = true)) (fun k => (8 - k).toNat) (0) ⟨Fr.refl _ _, hH5, rfl, (by omega), (by omega), fun j u v => absurd v (by omega)⟩ <| ?_
 rintro k sg7 w7 ⟨fr7, hH7, e6_7, h0, hk, hf⟩
 have e2_7 := fr7.pp 2 rfl rfl
 have e3_7 := fr7.pp 3 rfl rfl
 refine SR <| V (run_lss e6_7 rfl) <| RL.nil <| CW.seq <| CW.condP rfl (fun h9 => ?_) (fun h9 => ?_)
 ·refine CW.skip <| CW.seq <| CW.block <| SR <| vm e6_7 <| aI rfl <| RL.nil <| CW.seq <| CW.regionD (by kernel_rfl) hH7 <| fun w10 hH11 => have zh11 := hH11.sub sR; AQ 0 rfl zh11 (mV (I _) rfl) <| AQ 1 rfl zh11 (run_indexAddrA underlying51 sizeOf49 e2_7 rfl (by omega)) <| AT 2 rfl zh11 (fun w hS => run_ld underlying49 rfl rfl (hS.cell (i := 1) rfl (elC_at _ (by omega)))) <| AQ 3 rfl zh11 (mV (I _) rfl) <| AQ 4 rfl zh11 (run_indexAddrA underlying51 sizeOf49 e3_7 rfl (by omega)) <| AT 5 rfl zh11 (fun w hS => run_ld underlying49 rfl rfl (hS.cell (i := 0) rfl (elC_at _ (by omega)))) <| A1 6 <| AO.callP rfl gnone rfl hH11 sR (c_mask_Sub _ _  _) (run_call2 call68 rfl rfl) <| fun w12 hH13 => AQ 7 rfl (hH13.sub sR) (run_not rfl) <| AD <| CW.cond rfl (fun h16 => ?_) (fun h16 => ?_)
  ·refine SR <| va (v := B false) rfl <| RL.nil <| CW.ret <| outP1 Tryz.results37 (congrArg B ?_) hH13.below
   exact (leq_no h0 ‹_› (nt ‹_›)).symm
  ·refine CW.skip <| CW.region <| V (run_add e6_7 rfl (by omega)) <| mI rfl <| RL.nil <| ?_
   refine ⟨k + 1, ?_, fr7.u4.u4.u4.u1, hH13, (congrArg I (by rfl)), ?_, ?_, ?_⟩
   ·((try dsimp only); omega)
   ·omega
   ·omega
   ·exact fun j u v => if e : j = k then e ▸ nf ‹_› else hf j u (by omega)
 ·refine CW.exit (id := 0) rfl <| SR <| va (v := B true) rfl <| RL.nil <| CW.ret <| outP1 Tryz.results37 (congrArg B ?_) hH7.below
  exact (leq_yes ‹_› hf).symm
theorem c_shape_each (s : Shp) (fi : FuncId) (gg : Fc → BitVec 64) (w : World) (hs : ShpV (Kw w) s) (hf : ∀ args w, (callFunc fi args).run Tryz.prog w = .ok (.enter fi args) w) (go : ∀ f w', FacV (Kw w') f → Tab w' → Calls Tryz.prog fi #[.agg (facC f)] w' (Pure (U (gg f.fc)) w')) (hT : Tab w) : Calls Tryz.prog 58 #[.agg (shpC s), .func (.func fi) #[] #[]] w (Pure (.agg (elC (eachS s.sh gg))) w) := by
 have hsl := sh_len s
 have hm := hs.facs.sl.small
 unfold maxLen at hm
 refine enter Tryz.func58 rfl Tryz.ntmps58 rfl <| have hH := Hp.start w; SR <| RL.new rfl hH (f := fun b => (.pointer (some ⟨b, 0, none⟩))) (run_box (v := .agg _) rfl) <| fun b3 w1 hH2 => RL.new rfl hH2 (f := fun b => (.pointer (some ⟨b, 0, none⟩))) (run_alloc zero_el) <| fun b6 w4 hH5 => RL.nil <| SR <| RL.new rfl hH5 (f := fun b => (.pointer (some ⟨b, 0, none⟩))) (run_alloc zero_el) <| fun b9 w7 hH8 => RL.nil <| CW.seq <| SR <| V (run_ldA (cs := [B _, _]) underlying42 rfl rfl rfl (rangeAt_cells (hH8.blk (i := 2) rfl))) <| RL.callP rfl hH8 (c_shape_Right _  _ (hs.mono hH8.kw) (hT.hp hH8)) (run_call1 call53 rfl) <| fun w10 hH11 => RL.nil <| CW.cond rfl (fun h13 => ?_) (fun h13 => ?_)
 ·refine SR <| V (fA underlying42 1 rfl sizeOf40 rfl) <| V (run_ld underlying40 rfl rfl (hH11.cell (i := 2) rfl rfl)) <| V (run_lenSl (hs.facs.sl.hp hH11) rfl underlying40 rfl) <| vm (v := I 0) rfl <| RL.nil <| CW.block <| have hln := (sh_spec ‹shR s.sh = true›).1; CW.loop (G := Int × El) (fun ⟨k, e1⟩ s' w' => (Fr (6 :: 7 :: (rg 13 11 [])) _ s') ∧ (Hp w w' (.blk b9 (.cells (elC e1) 51 (0, 0)) :: _)) ∧ (s' 13 = I k) ∧ (0 ≤ k) ∧ (k ≤ s.facs.length) ∧ (e1 = mixE (eachS s.sh gg) el0 k)) (fun ⟨k, e1⟩ => (s.facs.length - k).toNat) ((0, el0)) ⟨Fr.refl _ _, hH11, rfl, (by omega), (by omega), (mix_zero _ _).symm⟩ <| ?_
  rintro ⟨k, e1⟩ sg14 w14 ⟨fr14, hH14, e13_14, h0, hk, hr⟩
  have e1_14 := fr14.vv 1 (a := .func _ _ _) rfl rfl
  have e4_14 := fr14.pp 4 rfl rfl
  have e5_14 := fr14.pp 5 rfl rfl
  have e11_14 := (fr14 11 rfl).trans (by conv => lhs; whnf)
  have e12_14 := fr14.ii 12 rfl rfl
  refine SR <| V (run_lss e13_14 e12_14) <| RL.nil <| CW.seq <| CW.condP rfl (fun h16 => ?_) (fun h16 => ?_)
  ·refine CW.skip <| CW.seq <| CW.block <| SR <| vm e13_14 <| V (run_indexAddrS (hs.facs.sl.hp hH14) underlying40 sizeOf59 e11_14 e13_14 (by omega)) <| V (run_ldE (dv := fac0) facL_len (hs.facs.sl.hp hH14) underlying59 rfl rfl rfl (by omega)) <| RL.new rfl hH14 (f := fun b => (.pointer (some ⟨b, 0, none⟩))) (run_alloc zero_fac) <| fun b19 w17 hH18 => aI rfl <| RL.set hH18 (i := 0) rfl (run_stFac (hs.at (by omega) (by omega)) rfl rfl rfl (hH18.blk (i := 0) rfl)) <| fun w20 hH21 => ?_
   simp only [z2] at hH21
   refine RL.nil <| CW.region <| mI rfl <| vm e1_14 <| V (run_ldFac underlying59 rfl rfl rfl (hH21.blk (i := 0) rfl)) <| RL.callP rfl hH21 (go _ _ ((hs.at (by omega) (by omega)).mono hH21.kw) (hT.hp hH21)) (run_callC1 hf (cs := []) rfl rfl) <| fun w22 hH23 => V (run_indexAddrA underlying51 sizeOf49 e5_14 rfl (by omega)) <| RL.set hH23 (i := 1) rfl (run_st rfl rfl (v := U _) rfl rfl rfl (hH23.blk (i := 1) rfl) (by rw [elC_size]; omega)) <| fun w24 hH25 => ?_
   simp only [z2] at hH25
   rw [elC_put] at hH25
   refine RL.nil <| CW.region <| V (run_add e13_14 rfl (by omega)) <| mI rfl <| RL.nil <| ?_
   refine ⟨(k + 1, _), ?_, fr14.u4.u4.u4.u1, (hH25.sub (sQ sR)), (congrArg I (by rfl)), ?_, ?_, ?_⟩
   ·((try dsimp only); omega)
   ·omega
   ·omega
   ·(have hp := each_put ‹shR s.sh = true› hr h0 (show k < s.sh.facs.length by omega); rw [sh_get] at hp; exact hp)
  ·refine CW.exit (id := 0) rfl <| SR <| V (run_ldEl underlying51 rfl rfl e5_14 (hH14.blk (i := 0) rfl)) <| RL.set hH14 (i := 1) rfl (run_stEl rfl e4_14 rfl (hH14.blk (i := 1) rfl)) <| fun w26 hH27 => ?_
   simp only [z2] at hH27
   refine RL.nil <| CW.ret <| outCg Tryz.results58 e4_14 hH27 (i := 1) rfl underlying51 rfl (by rw [elC_size]; rfl) ⟨?_, hH27.below⟩
   exact congrArg Value.agg (elC_congr (by rw [hr]; exact each_all (by omega)))
 ·refine CW.skip <| SR <| V (run_ldEl underlying51 rfl rfl rfl (hH11.blk (i := 0) rfl)) <| RL.set hH11 (i := 1) rfl (run_stEl rfl rfl rfl (hH11.blk (i := 1) rfl)) <| fun w28 hH29 => ?_
  simp only [z2] at hH29
  refine RL.nil <| CW.ret <| outCg Tryz.results58 rfl hH29 (i := 1) rfl underlying51 rfl (by rw [elC_size]; rfl) ⟨?_, hH29.below⟩
  exact congrArg Value.agg (elC_congr (each_no ‹_›))
theorem c_shape_least (f : Fac) (w : World) (hf : FacV (Kw w) f) (hT : Tab w) : Calls Tryz.prog 59 #[.agg (facC f)] w (Pure (U (leastF f.fc)) w) := by
 refine enter Tryz.func59 rfl Tryz.ntmps59 rfl <| have hH := Hp.start w; SR <| RL.new rfl hH (f := fun b => (.pointer (some ⟨b, 0, none⟩))) (run_box (v := .agg _) rfl) <| fun b3 w1 hH2 => va (v := U 0#64) rfl <| RL.nil <| CW.seq <| SR <| V (fA underlying59 0 rfl sizeOf3 rfl) <| V (run_ld underlying3 rfl rfl (hH2.cell (i := 0) rfl (v := I _) rfl)) <| V (run_neq rfl rfl) <| RL.nil <| CW.condP rfl (fun h5 => ?_) (fun h5 => ?_)
 ·refine SR <| va (v := U 0#64) rfl <| RL.nil <| CW.ret <| outP1 Tryz.results59 (congrArg U ?_) hH2.below
  exact (if_pos (show f.fc.kind ≠ 4 from ‹_›)).symm
 ·refine CW.skip <| SR <| V (fA underlying59 2 rfl sizeOf57 rfl) <| V (run_ldBR underlying57 rfl rfl rfl (hH2.blk (i := 0) rfl)) <| RL.callP rfl hH2 (c_hasse_Bottom _  _ (hT.hp hH2)) (run_call1 call84 rfl) <| fun w6 hH7 => ?_
  refine V (run_move (by conv => lhs; whnf)) ?_
  refine V (run_extract rfl (v := I _) rfl) <| V (run_extract rfl (v := B _) rfl) <| aI rfl <| aB rfl <| RL.nil <| SR <| V (fA underlying59 2 rfl sizeOf57 rfl) <| V (run_ldBR underlying57 rfl rfl rfl (hH7.blk (i := 0) rfl)) <| mI rfl <| RL.callP rfl hH7 (c_hasse_Word _ _  _ (hT.hp hH7)) (run_call2 call85 rfl rfl) <| fun w9 hH10 => aU rfl <| RL.nil <| CW.ret <| outP1 Tryz.results59 (congrArg U ?_) hH10.below
  exact (if_neg (show ¬ f.fc.kind ≠ 4 from ‹_›)).symm
theorem c_shape_Bottom (s : Shp) (w : World) (hs : ShpV (Kw w) s) (hT : Tab w) : Calls Tryz.prog 30 #[.agg (shpC s)] w (Pure (.agg (elC (eachS s.sh leastF))) w) := by
 refine enter Tryz.func30 rfl Tryz.ntmps30 rfl <| have hH := Hp.start w; SR <| RL.new rfl hH (f := fun b => (.pointer (some ⟨b, 0, none⟩))) (run_box (v := .agg _) rfl) <| fun b3 w1 hH2 => RL.new rfl hH2 (f := fun b => (.pointer (some ⟨b, 0, none⟩))) (run_alloc zero_el) <| fun b6 w4 hH5 => RL.nil <| SR <| V (run_ldA (cs := [B _, _]) underlying42 rfl rfl rfl (rangeAt_cells (hH5.blk (i := 1) rfl))) <| RL.callP rfl hH5 (c_shape_each s 59 leastF _ (hs.mono hH5.kw) call59 (fun f w h ht => c_shape_least f w h ht) (hT.hp hH5)) (run_call2 call58 rfl rfl) <| fun w7 hH8 => RL.set hH8 (i := 0) rfl (run_stEl rfl rfl rfl (hH8.blk (i := 0) rfl)) <| fun w9 hH10 => ?_
 simp only [z2] at hH10
 refine RL.nil <| CW.ret <| outCg Tryz.results30 rfl hH10 (i := 0) rfl underlying51 rfl (by rw [elC_size]; rfl) ⟨?_, hH10.below⟩
 rfl
theorem c_clearanceref07_factor (f : Fac) (w : World) (hf : FacV (Kw w) f) : Calls Tryz.prog 71 #[.agg (facC f)] w (Pure (B (factorR f.fc)) w) := by
 have hm := hf.names.sl.small
 unfold maxLen at hm
 refine enter Tryz.func71 rfl Tryz.ntmps71 rfl <| have hH := Hp.start w; SR <| RL.new rfl hH (f := fun b => (.pointer (some ⟨b, 0, none⟩))) (run_box (v := .agg _) rfl) <| fun b3 w1 hH2 => va (v := B false) rfl <| RL.nil <| SR <| V (fA underlying59 1 rfl sizeOf54 rfl) <| V (run_ld underlying54 rfl rfl (hH2.cell (i := 0) rfl rfl)) <| V (run_lenSl (hf.names.sl.hp hH2) rfl underlying54 rfl) <| aI rfl <| RL.nil <| CW.seq <| SR <| mI rfl <| V (run_lss rfl rfl) <| mB rfl <| RL.splitP (dj := 10) rfl (fun h5 => ?_) (fun h5 => ?_)
 ·refine gF rfl (bT h5) <| gF rfl (bT h5) <| V (run_pickT (bT h5) (v := B true) rfl) <| mB rfl <| gF rfl rfl <| gF rfl rfl <| gF rfl rfl <| gF rfl rfl <| V (run_pickT rfl (v := B true) rfl) <| RL.nil <| CW.condT rfl <| SR <| va (v := B false) rfl <| RL.nil <| CW.ret <| outP1 Tryz.results71 (congrArg B ?_) hH2.below
  exact (fac_no (f := f.fc) (named_no1 (by show ¬ (1 ≤ f.names.length ∧ f.names.length ≤ 64); omega))).symm
 ·refine gT rfl (bF h5) <| mI rfl <| gT rfl (bF h5) <| V (run_gtr rfl rfl) <| V (run_pickF (bF h5) (v := B _) rfl) <| mB rfl <| RL.splitP (dj := 14) rfl (fun h7 => ?_) (fun h7 => ?_)
  ·refine gF rfl (bT h7) <| gF rfl (bT h7) <| gF rfl (bT h7) <| gF rfl (bT h7) <| V (run_pickT (bT h7) (v := B true) rfl) <| RL.nil <| CW.condT rfl <| SR <| va (v := B false) rfl <| RL.nil <| CW.ret <| outP1 Tryz.results71 (congrArg B ?_) hH2.below
   exact (fac_no (f := f.fc) (named_no1 (by show ¬ (1 ≤ f.names.length ∧ f.names.length ≤ 64); omega))).symm
  ·refine gT rfl (bF h7) <| V (fA underlying59 1 rfl sizeOf54 rfl) <| gT rfl (bF h7) <| V (run_ld underlying54 rfl rfl (hH2.cell (i := 0) rfl rfl)) <| gT rfl (bF h7) <| RL.callP rfl hH2 (c_clearanceref02_Twice _ _  _ (hf.names.sl.hp hH2)) (run_call1 call50 rfl) <| fun w8 hH9 => gT rfl (bF h7) <| V (run_geq rfl rfl) <| V (run_pickF (bF h7) (v := B _) rfl) <| RL.nil <| CW.condP rfl (fun h11 => ?_) (fun h11 => ?_)
   ·refine SR <| va (v := B false) rfl <| RL.nil <| CW.ret <| outP1 Tryz.results71 (congrArg B ?_) hH9.below
    exact (fac_no (f := f.fc) (named_no2 (by show ¬ twice f.names < 0; omega))).symm
   ·refine CW.skip <| CW.seq <| SR <| va (v := I 0) rfl <| RL.nil <| CW.block <| have hn1 : 1 ≤ f.names.length ∧ f.names.length ≤ 64 := (by omega); have hn2 : twice f.names < 0 := (by omega); CW.loop (G := Int) (fun k s' w' => (Fr (2 :: (4 :: (rg 20 12 []))) _ s') ∧ (Hp w w' _) ∧ (s' 4 = I k) ∧ (0 ≤ k) ∧ (k ≤ f.names.length) ∧ (∀ j : Int, 0 ≤ j → j < k → nameR (f.names.getD j.toNat tx0) = true)) (fun k => (f.names.length - k).toNat) (0) ⟨Fr.refl _ _, hH9, rfl, (by omega), (by omega), fun j a b => absurd b (by omega)⟩ <| ?_
    rintro k sg12 w12 ⟨fr12, hH12, e4_12, h0, hk, hg⟩
    have e1_12 := fr12.pp 1 rfl rfl
    have e3_12 := fr12.ii 3 rfl rfl
    refine CW.seq <| SR <| vm e4_12 <| vm e3_12 <| V (run_lss rfl rfl) <| RL.nil <| CW.condP rfl (fun h14 => ?_) (fun h14 => ?_)
    ·refine CW.skip <| CW.seq <| CW.block <| SR <| V (fA underlying59 1 rfl sizeOf54 e1_12) <| V (run_ld underlying54 rfl rfl (hH12.cell (i := 0) rfl rfl)) <| vm e4_12 <| V (run_indexAddrS (hf.names.sl.hp hH12) underlying54 sizeOf9 rfl rfl (by omega)) <| V (run_ld underlying9 rfl rfl ((hf.names.sl.hp hH12).cell _ _ (txL_at (by omega)))) <| RL.callP rfl hH12 (c_clearanceref02_Right _  _) (run_call1 call49 rfl) <| fun w15 hH16 => V (run_not rfl) <| RL.nil <| CW.cond rfl (fun h19 => ?_) (fun h19 => ?_)
     ·refine SR <| va (v := B false) rfl <| RL.nil <| CW.ret <| outP1 Tryz.results71 (congrArg B ?_) hH16.below
      exact (fac_no (f := f.fc) (named_no3 h0 ‹_› (nt ‹_›))).symm
     ·refine CW.skip <| CW.region <| vm e4_12 <| V (run_add rfl rfl (by omega)) <| aI rfl <| RL.nil <| ?_
      refine ⟨k + 1, ?_, fr12.u4.u4.u4.u1, hH16, (congrArg I (by rfl)), ?_, ?_, ?_⟩
      ·((try dsimp only); omega)
      ·omega
      ·omega
      ·exact fun j a b => if e : j = k then e ▸ nf ‹_› else hg j a (by omega)
    ·refine CW.exit (id := 0) rfl <| CW.seq <| SR <| V (fA underlying59 0 rfl sizeOf3 e1_12) <| V (run_ld underlying3 rfl rfl (hH12.cell (i := 0) rfl (v := I _) rfl)) <| V (run_eql rfl rfl) <| mB rfl <| RL.splitP (dj := 35) rfl (fun h21 => ?_) (fun h21 => ?_)
     ·refine gF rfl (bT h21) <| gF rfl (bT h21) <| gF rfl (bT h21) <| V (run_pickT (bT h21) (v := B true) rfl) <| RL.nil <| CW.condT rfl <| SR <| V (fA underlying59 2 rfl sizeOf57 e1_12) <| V (run_ldBR underlying57 rfl rfl rfl (hH12.blk (i := 0) rfl)) <| RL.callP rfl hH12 (c_clearanceref03_Points _  _) (run_call1 call86 rfl) <| fun w22 hH23 => V (run_eql rfl rfl) <| aB rfl <| RL.nil <| CW.ret <| outP1 Tryz.results71 (congrArg B ?_) hH23.below
      (have hny : namedF f.names = true := named_yes hn1 hn2 ‹¬ k < _› hg; exact (fac_12 (f := f.fc) hny (.inl ‹_›)).symm)
     ·refine gT rfl (bF h21) <| V (fA underlying59 0 rfl sizeOf3 e1_12) <| gT rfl (bF h21) <| V (run_ld underlying3 rfl rfl (hH12.cell (i := 0) rfl (v := I _) rfl)) <| gT rfl (bF h21) <| V (run_eql rfl rfl) <| V (run_pickF (bF h21) (v := B _) rfl) <| RL.nil <| CW.condP rfl (fun h26 => ?_) (fun h26 => ?_)
      ·refine SR <| V (fA underlying59 2 rfl sizeOf57 e1_12) <| V (run_ldBR underlying57 rfl rfl rfl (hH12.blk (i := 0) rfl)) <| RL.callP rfl hH12 (c_clearanceref03_Points _  _) (run_call1 call86 rfl) <| fun w27 hH28 => V (run_eql rfl rfl) <| aB rfl <| RL.nil <| CW.ret <| outP1 Tryz.results71 (congrArg B ?_) hH28.below
       (have hny : namedF f.names = true := named_yes hn1 hn2 ‹¬ k < _› hg; exact (fac_12 (f := f.fc) hny (.inr ‹_›)).symm)
      ·refine CW.skip <| CW.seq <| SR <| V (fA underlying59 0 rfl sizeOf3 e1_12) <| V (run_ld underlying3 rfl rfl (hH12.cell (i := 0) rfl (v := I _) rfl)) <| V (run_eql rfl rfl) <| RL.nil <| CW.condP rfl (fun h31 => ?_) (fun h31 => ?_)
       ·refine SR <| V (fA underlying59 2 rfl sizeOf57 e1_12) <| V (fA underlying57 0 rfl sizeOf3 rfl) <| V (run_ld underlying3 rfl rfl (hH12.cell (i := 0) rfl (v := I _) rfl)) <| vm e3_12 <| V (run_eql rfl rfl) <| mB rfl <| RL.splitP (dj := 52) rfl (fun h33 => ?_) (fun h33 => ?_)
        ·refine gT rfl (bT h33) <| V (fA underlying59 2 rfl sizeOf57 e1_12) <| gT rfl (bT h33) <| V (run_ldBR underlying57 rfl rfl rfl (hH12.blk (i := 0) rfl)) <| gT rfl (bT h33) <| RL.callP rfl hH12 (c_clearanceref05_Right _  _) (run_call1 call89 rfl) <| fun w34 hH35 => V (run_pickT (bT h33) (v := B _) rfl) <| aB rfl <| RL.nil <| CW.ret <| outP1 Tryz.results71 (congrArg B ?_) hH35.below
         (have hny : namedF f.names = true := named_yes hn1 hn2 ‹¬ k < _› hg; exact (fac_3y (f := f.fc) hny ‹_› ‹_›).symm)
        ·refine gF rfl (bF h33) <| gF rfl (bF h33) <| gF rfl (bF h33) <| V (run_pickF (bF h33) (v := B false) rfl) <| aB rfl <| RL.nil <| CW.ret <| outP1 Tryz.results71 (congrArg B ?_) hH12.below
         (have hny : namedF f.names = true := named_yes hn1 hn2 ‹¬ k < _› hg; exact (fac_3n (f := f.fc) ‹_› ‹_›).symm)
       ·refine CW.skip <| SR <| V (fA underlying59 0 rfl sizeOf3 e1_12) <| V (run_ld underlying3 rfl rfl (hH12.cell (i := 0) rfl (v := I _) rfl)) <| V (run_eql rfl rfl) <| mB rfl <| RL.splitP (dj := 60) rfl (fun h38 => ?_) (fun h38 => ?_)
        ·refine gT rfl (bT h38) <| V (fA underlying59 2 rfl sizeOf57 e1_12) <| gT rfl (bT h38) <| V (fA underlying57 0 rfl sizeOf3 rfl) <| gT rfl (bT h38) <| V (run_ld underlying3 rfl rfl (hH12.cell (i := 0) rfl (v := I _) rfl)) <| gT rfl (bT h38) <| vm e3_12 <| gT rfl (bT h38) <| V (run_eql rfl rfl) <| V (run_pickT (bT h38) (v := B _) rfl) <| mB rfl <| RL.splitP (dj := 67) rfl (fun h40 => ?_) (fun h40 => ?_)
         ·refine gT rfl (bT h40) <| V (fA underlying59 2 rfl sizeOf57 e1_12) <| gT rfl (bT h40) <| V (run_ldBR underlying57 rfl rfl rfl (hH12.blk (i := 0) rfl)) <| gT rfl (bT h40) <| RL.callP rfl hH12 (c_clearanceref06_Lattice _  _) (run_call1 call99 rfl) <| fun w41 hH42 => V (run_pickT (bT h40) (v := B _) rfl) <| aB rfl <| RL.nil <| CW.ret <| outP1 Tryz.results71 (congrArg B ?_) hH42.below
          (have hny : namedF f.names = true := named_yes hn1 hn2 ‹¬ k < _› hg; exact (fac_4y (f := f.fc) hny ‹_› ‹_›).symm)
         ·refine gF rfl (bF h40) <| gF rfl (bF h40) <| gF rfl (bF h40) <| V (run_pickF (bF h40) (v := B false) rfl) <| aB rfl <| RL.nil <| CW.ret <| outP1 Tryz.results71 (congrArg B ?_) hH12.below
          (have hny : namedF f.names = true := named_yes hn1 hn2 ‹¬ k < _› hg; exact (fac_4n (f := f.fc) ‹_› ‹_›).symm)
        ·refine gF rfl (bF h38) <| gF rfl (bF h38) <| gF rfl (bF h38) <| gF rfl (bF h38) <| gF rfl (bF h38) <| V (run_pickF (bF h38) (v := B false) rfl) <| mB rfl <| gF rfl rfl <| gF rfl rfl <| gF rfl rfl <| V (run_pickF rfl (v := B false) rfl) <| aB rfl <| RL.nil <| CW.ret <| outP1 Tryz.results71 (congrArg B ?_) hH12.below
         (have hny : namedF f.names = true := named_yes hn1 hn2 ‹¬ k < _› hg; exact (fac_x (f := f.fc) ‹_› ‹_› ‹_› ‹_›).symm)
theorem c_clearanceref07_Right (s : Shp) (w : World) (hs : ShpV (Kw w) s) : Calls Tryz.prog 48 #[.agg (shpC s)] w (Pure (B (shR s.sh)) w) := by
 have hsl := sh_len s
 have hm := hs.facs.sl.small
 unfold maxLen at hm
 refine enter Tryz.func48 rfl Tryz.ntmps48 rfl <| have hH := Hp.start w; SR <| RL.new rfl hH (f := fun b => (.pointer (some ⟨b, 0, none⟩))) (run_box (v := .agg _) rfl) <| fun b3 w1 hH2 => va (v := B false) rfl <| RL.nil <| CW.seq <| SR <| V (fA underlying42 1 rfl sizeOf40 rfl) <| V (run_ld underlying40 rfl rfl (hH2.cell (i := 0) rfl rfl)) <| V (run_lenSl (hs.facs.sl.hp hH2) rfl underlying40 rfl) <| V (run_lss rfl rfl) <| mB rfl <| RL.splitP (dj := 8) rfl (fun h5 => ?_) (fun h5 => ?_)
 ·refine gF rfl (bT h5) <| gF rfl (bT h5) <| gF rfl (bT h5) <| gF rfl (bT h5) <| V (run_pickT (bT h5) (v := B true) rfl) <| mB rfl <| gF rfl rfl <| gF rfl rfl <| gF rfl rfl <| gF rfl rfl <| RL.gU rfl rfl rfl <| RL.gU rfl rfl rfl <| RL.gU rfl rfl rfl <| RL.gU rfl rfl rfl <| gF rfl rfl <| V (run_pickT rfl (v := B true) rfl) <| RL.nil <| CW.condT rfl <| SR <| va (v := B false) rfl <| RL.nil <| CW.ret <| outP1 Tryz.results48 (congrArg B ?_) hH2.below
  exact (shR_no1 (by omega)).symm
 ·refine gT rfl (bF h5) <| V (fA underlying42 1 rfl sizeOf40 rfl) <| gT rfl (bF h5) <| V (run_ld underlying40 rfl rfl (hH2.cell (i := 0) rfl rfl)) <| gT rfl (bF h5) <| V (run_lenSl (hs.facs.sl.hp hH2) rfl underlying40 rfl) <| gT rfl (bF h5) <| V (run_gtr rfl rfl) <| V (run_pickF (bF h5) (v := B _) rfl) <| mB rfl <| RL.splitP (dj := 14) rfl (fun h7 => ?_) (fun h7 => ?_)
  ·refine gF rfl (bT h7) <| gF rfl (bT h7) <| gF rfl (bT h7) <| gF rfl (bT h7) <| RL.gU rfl rfl rfl <| RL.gU rfl rfl rfl <| RL.gU rfl rfl rfl <| RL.gU rfl rfl rfl <| gF rfl (bT h7) <| V (run_pickT (bT h7) (v := B true) rfl) <| RL.nil <| CW.condT rfl <| SR <| va (v := B false) rfl <| RL.nil <| CW.ret <| outP1 Tryz.results48 (congrArg B ?_) hH2.below
   exact (shR_no1 (by omega)).symm
  ·refine gT rfl (bF h7) <| V (fA underlying42 0 rfl sizeOf4 rfl) <| gT rfl (bF h7) <| V (run_ld underlying4 rfl rfl (hH2.cell (i := 0) rfl (v := B _) rfl)) <| gT rfl (bF h7) <| V (run_not rfl) <| gT rfl (bF h7) <| mB rfl <| RL.split (dj := 18) rfl (fun h10 => ?_) (fun h10 => ?_)
   ·refine gT rfl (bR (c := true) h10) <| V (fA underlying42 1 rfl sizeOf40 rfl) <| gT rfl (bR (c := true) h10) <| V (run_ld underlying40 rfl rfl (hH2.cell (i := 0) rfl rfl)) <| gT rfl (bR (c := true) h10) <| V (run_lenSl (hs.facs.sl.hp hH2) rfl underlying40 rfl) <| gT rfl (bR (c := true) h10) <| V (run_neq rfl rfl) <| gT rfl (bF h7) <| V (run_pickT (bR (c := true) h10) (v := B _) rfl) <| V (run_pickF (bF h7) (v := B _) rfl) <| RL.nil <| CW.condP rfl (fun h12 => ?_) (fun h12 => ?_)
    ·refine SR <| va (v := B false) rfl <| RL.nil <| CW.ret <| outP1 Tryz.results48 (congrArg B ?_) hH2.below
     exact (shR_no2 (by exact nt ‹_›) (by omega)).symm
    ·refine CW.skip <| CW.seq <| SR <| va (v := I 0) rfl <| RL.nil <| CW.block <| have hc2 : s.sh.tuple = true ∨ s.sh.facs.length = 1 := (by exact .inr (by omega)); have hc1 : 1 ≤ s.facs.length ∧ s.facs.length ≤ 8 := (by omega); CW.loop (G := Int) (fun k s' w' => (Fr (2 :: 3 :: (rg 25 14 [])) _ s') ∧ (Hp w w' _) ∧ (s' 3 = I k) ∧ (0 ≤ k) ∧ (k ≤ s.facs.length) ∧ (∀ j : Int, 0 ≤ j → j < k → factorR (s.facs.getD j.toNat fac0).fc = true)) (fun k => (s.facs.length - k).toNat) (0) ⟨Fr.refl _ _, hH2, rfl, (by omega), (by omega), fun j a b => absurd b (by omega)⟩ <| ?_
     rintro k sg13 w13 ⟨fr13, hH13, e3_13, h0, hk, hg⟩
     have e1_13 := fr13.pp 1 rfl rfl
     refine CW.seq <| SR <| vm e3_13 <| V (fA underlying42 1 rfl sizeOf40 e1_13) <| V (run_ld underlying40 rfl rfl (hH13.cell (i := 0) rfl rfl)) <| V (run_lenSl (hs.facs.sl.hp hH13) rfl underlying40 rfl) <| V (run_lss rfl rfl) <| RL.nil <| CW.condP rfl (fun h15 => ?_) (fun h15 => ?_)
     ·refine CW.skip <| CW.seq <| CW.block <| SR <| V (fA underlying42 1 rfl sizeOf40 e1_13) <| V (run_ld underlying40 rfl rfl (hH13.cell (i := 0) rfl rfl)) <| vm e3_13 <| V (run_indexAddrS (hs.facs.sl.hp hH13) underlying40 sizeOf59 rfl rfl (by omega)) <| V (run_ldE (dv := fac0) facL_len (hs.facs.sl.hp hH13) underlying59 rfl rfl rfl (by omega)) <| RL.callP rfl hH13 (c_clearanceref07_factor _  _ ((hs.at (by omega) (by omega)).mono hH13.kw)) (run_call1 call71 rfl) <| fun w16 hH17 => V (run_not rfl) <| RL.nil <| CW.cond rfl (fun h20 => ?_) (fun h20 => ?_)
      ·refine SR <| va (v := B false) rfl <| RL.nil <| CW.ret <| outP1 Tryz.results48 (congrArg B ?_) hH17.below
       exact (shR_no3 (k := k) h0 (by omega) (by rw [sh_get]; exact nt ‹_›)).symm
      ·refine CW.skip <| CW.region <| vm e3_13 <| V (run_add rfl rfl (by omega)) <| aI rfl <| RL.nil <| ?_
       refine ⟨k + 1, ?_, fr13.u4.u4.u4.u1.u1.u1, hH17, (congrArg I (by rfl)), ?_, ?_, ?_⟩
       ·((try dsimp only); omega)
       ·omega
       ·omega
       ·exact fun j a b => if e : j = k then e ▸ nf ‹_› else hg j a (by omega)
     ·refine CW.exit (id := 0) rfl <| SR <| va (v := B true) rfl <| RL.nil <| CW.ret <| outP1 Tryz.results48 (congrArg B ?_) hH13.below
      exact (shR_yes (k := k) (by omega) hc2 (by omega) fun j a b => by rw [sh_get]; exact hg j a b).symm
   ·refine gF rfl (bR (c := false) h10) <| gF rfl (bR (c := false) h10) <| gF rfl (bR (c := false) h10) <| gF rfl (bR (c := false) h10) <| gT rfl (bF h7) <| V (run_pickF (bR (c := false) h10) (v := B false) rfl) <| V (run_pickF (bF h7) (v := B _) rfl) <| RL.nil <| CW.condF rfl <| CW.skip <| CW.seq <| SR <| va (v := I 0) rfl <| RL.nil <| CW.block <| have hc2 : s.sh.tuple = true ∨ s.sh.facs.length = 1 := (by exact .inl (nf ‹(!s.tuple) = false›)); have hc1 : 1 ≤ s.facs.length ∧ s.facs.length ≤ 8 := (by omega); CW.loop (G := Int) (fun k s' w' => (Fr (2 :: 3 :: (rg 25 14 [])) _ s') ∧ (Hp w w' _) ∧ (s' 3 = I k) ∧ (0 ≤ k) ∧ (k ≤ s.facs.length) ∧ (∀ j : Int, 0 ≤ j → j < k → factorR (s.facs.getD j.toNat fac0).fc = true)) (fun k => (s.facs.length - k).toNat) (0) ⟨Fr.refl _ _, hH2, rfl, (by omega), (by omega), fun j a b => absurd b (by omega)⟩ <| ?_
    rintro k sg21 w21 ⟨fr21, hH21, e3_21, h0, hk, hg⟩
    have e1_21 := fr21.pp 1 rfl rfl
    refine CW.seq <| SR <| vm e3_21 <| V (fA underlying42 1 rfl sizeOf40 e1_21) <| V (run_ld underlying40 rfl rfl (hH21.cell (i := 0) rfl rfl)) <| V (run_lenSl (hs.facs.sl.hp hH21) rfl underlying40 rfl) <| V (run_lss rfl rfl) <| RL.nil <| CW.condP rfl (fun h23 => ?_) (fun h23 => ?_)
    ·refine CW.skip <| CW.seq <| CW.block <| SR <| V (fA underlying42 1 rfl sizeOf40 e1_21) <| V (run_ld underlying40 rfl rfl (hH21.cell (i := 0) rfl rfl)) <| vm e3_21 <| V (run_indexAddrS (hs.facs.sl.hp hH21) underlying40 sizeOf59 rfl rfl (by omega)) <| V (run_ldE (dv := fac0) facL_len (hs.facs.sl.hp hH21) underlying59 rfl rfl rfl (by omega)) <| RL.callP rfl hH21 (c_clearanceref07_factor _  _ ((hs.at (by omega) (by omega)).mono hH21.kw)) (run_call1 call71 rfl) <| fun w24 hH25 => V (run_not rfl) <| RL.nil <| CW.cond rfl (fun h28 => ?_) (fun h28 => ?_)
     ·refine SR <| va (v := B false) rfl <| RL.nil <| CW.ret <| outP1 Tryz.results48 (congrArg B ?_) hH25.below
      exact (shR_no3 (k := k) h0 (by omega) (by rw [sh_get]; exact nt ‹_›)).symm
     ·refine CW.skip <| CW.region <| vm e3_21 <| V (run_add rfl rfl (by omega)) <| aI rfl <| RL.nil <| ?_
      refine ⟨k + 1, ?_, fr21.u4.u4.u4.u1.u1.u1, hH25, (congrArg I (by rfl)), ?_, ?_, ?_⟩
      ·((try dsimp only); omega)
      ·omega
      ·omega
      ·exact fun j a b => if e : j = k then e ▸ nf ‹_› else hg j a (by omega)
    ·refine CW.exit (id := 0) rfl <| SR <| va (v := B true) rfl <| RL.nil <| CW.ret <| outP1 Tryz.results48 (congrArg B ?_) hH21.below
     exact (shR_yes (k := k) (by omega) hc2 (by omega) fun j a b => by rw [sh_get]; exact hg j a b).symm
theorem c_clearanceref07_word (f : Fac) (s : BitVec 64) (hfr : factorR f.fc = true) (w : World) (hf : FacV (Kw w) f) : Calls Tryz.prog 56 #[.agg (facC f), U s] w (Pure (B (wordF f.fc s)) w) := by
 have hm := hf.names.sl.small
 unfold maxLen at hm
 refine enter Tryz.func56 rfl Tryz.ntmps56 rfl <| have hH := Hp.start w; SR <| RL.new rfl hH (f := fun b => (.pointer (some ⟨b, 0, none⟩))) (run_box (v := .agg _) rfl) <| fun b3 w1 hH2 => va (v := B false) rfl <| RL.nil <| CW.seq <| SR <| V (fA underlying59 0 rfl sizeOf3 rfl) <| V (run_ld underlying3 rfl rfl (hH2.cell (i := 0) rfl (v := I _) rfl)) <| V (run_eql rfl rfl) <| RL.nil <| CW.condP rfl (fun h5 => ?_) (fun h5 => ?_)
 ·refine SR <| V (fA underlying59 1 rfl sizeOf54 rfl) <| V (run_ld underlying54 rfl rfl (hH2.cell (i := 0) rfl rfl)) <| V (run_lenSl (hf.names.sl.hp hH2) rfl underlying54 rfl) <| mU rfl <| RL.callP rfl hH2 (c_clearanceref04_Level _ _  _) (run_call2 call81 rfl rfl) <| fun w6 hH7 => ?_
  refine V (run_move (by conv => lhs; whnf)) ?_
  refine V (run_extract rfl (v := I _) rfl) <| V (run_extract rfl (v := B _) rfl) <| aI rfl <| aB rfl <| RL.nil <| SR <| mB rfl <| aB rfl <| RL.nil <| CW.ret <| outP1 Tryz.results56 (congrArg B ?_) hH7.below
  exact (word1 (f := f.fc) ‹_› s).symm
 ·refine CW.skip <| CW.seq <| SR <| V (fA underlying59 0 rfl sizeOf3 rfl) <| V (run_ld underlying3 rfl rfl (hH2.cell (i := 0) rfl (v := I _) rfl)) <| V (run_eql rfl rfl) <| RL.nil <| CW.condP rfl (fun h10 => ?_) (fun h10 => ?_)
  ·refine SR <| mU rfl <| V (fA underlying59 1 rfl sizeOf54 rfl) <| V (run_ld underlying54 rfl rfl (hH2.cell (i := 0) rfl rfl)) <| V (run_lenSl (hf.names.sl.hp hH2) rfl underlying54 rfl) <| RL.callP rfl hH2 (c_clearanceref01_Below _  _) (run_call1 call63 rfl) <| fun w11 hH12 => RL.callP rfl hH12 (c_clearanceref01_Sub _ _  _) (run_call2 call70 rfl rfl) <| fun w13 hH14 => aB rfl <| RL.nil <| CW.ret <| outP1 Tryz.results56 (congrArg B ?_) hH14.below
   exact (word2 (f := f.fc) ‹_› s).symm
  ·refine CW.skip <| CW.seq <| SR <| V (fA underlying59 0 rfl sizeOf3 rfl) <| V (run_ld underlying3 rfl rfl (hH2.cell (i := 0) rfl (v := I _) rfl)) <| V (run_eql rfl rfl) <| RL.nil <| CW.condP rfl (fun h17 => ?_) (fun h17 => ?_)
   ·refine SR <| V (fA underlying59 2 rfl sizeOf57 rfl) <| V (run_ldBR underlying57 rfl rfl rfl (hH2.blk (i := 0) rfl)) <| mU rfl <| RL.callP rfl hH2 (c_clearanceref05_Close _ _  _) (run_call2 call82 rfl rfl) <| fun w18 hH19 => mU rfl <| V (run_eqlU rfl rfl) <| aB rfl <| RL.nil <| CW.ret <| outP1 Tryz.results56 (congrArg B ?_) hH19.below
    exact (word3r (f := f.fc) hfr ‹_› s).symm
   ·refine CW.skip <| SR <| V (fA underlying59 2 rfl sizeOf57 rfl) <| V (run_ldBR underlying57 rfl rfl rfl (hH2.blk (i := 0) rfl)) <| mU rfl <| RL.callP rfl hH2 (c_clearanceref06_Point _ _  _) (run_call2 call83 rfl rfl) <| fun w21 hH22 => ?_
    refine V (run_move (by conv => lhs; whnf)) ?_
    refine V (run_extract rfl (v := I _) rfl) <| V (run_extract rfl (v := B _) rfl) <| aI rfl <| aB rfl <| RL.nil <| SR <| mB rfl <| aB rfl <| RL.nil <| CW.ret <| outP1 Tryz.results56 (congrArg B ?_) hH22.below
    exact (wordx (f := f.fc) ‹_› ‹_› ‹_› s).symm
theorem c_clearanceref07_Fits (s : Shp) (e : El) (w : World) (hs : ShpV (Kw w) s) : Calls Tryz.prog 27 #[.agg (shpC s), .agg (elC e)] w (Pure (B (fitsS s.sh e)) w) := by
 have hsl := sh_len s
 have hm := hs.facs.sl.small
 unfold maxLen at hm
 refine enter Tryz.func27 rfl Tryz.ntmps27 rfl <| have hH := Hp.start w; SR <| RL.new rfl hH (f := fun b => (.pointer (some ⟨b, 0, none⟩))) (run_box (v := .agg _) rfl) <| fun b3 w1 hH2 => RL.new rfl hH2 (f := fun b => (.pointer (some ⟨b, 0, none⟩))) (run_box (v := .agg _) rfl) <| fun b6 w4 hH5 => va (v := B false) rfl <| RL.nil <| CW.seq <| SR <| V (run_ldA (cs := [B _, _]) underlying42 rfl rfl rfl (rangeAt_cells (hH5.blk (i := 1) rfl))) <| RL.callP rfl hH5 (c_clearanceref07_Right _  _ (hs.mono hH5.kw)) (run_call1 call48 rfl) <| fun w7 hH8 => V (run_not rfl) <| RL.nil <| CW.cond rfl (fun h11 => ?_) (fun h11 => ?_)
 ·refine SR <| va (v := B false) rfl <| RL.nil <| CW.ret <| outP1 Tryz.results27 (congrArg B ?_) hH8.below
  exact (fits_no1 (nt ‹_›)).symm
 ·refine CW.skip <| CW.seq <| SR <| va (v := I 0) rfl <| RL.nil <| CW.block <| have hr : shR s.sh = true := nf ‹_›; CW.loop (G := Int) (fun k s' w' => (Fr (4 :: 5 :: (rg 9 34 [])) _ s') ∧ (Hp w w' _) ∧ (s' 5 = I k) ∧ (0 ≤ k) ∧ (k ≤ 8) ∧ (FitTo s.sh e k)) (fun k => (8 - k).toNat) (0) ⟨Fr.refl _ _, hH8, rfl, (by omega), (by omega), FitTo.none _ _⟩ <| ?_
  rintro k sg12 w12 ⟨fr12, hH12, e5_12, h0, hk, hf⟩
  have e2_12 := fr12.pp 2 rfl rfl
  have e3_12 := fr12.pp 3 rfl rfl
  refine CW.seq <| SR <| vm e5_12 <| V (run_lss rfl rfl) <| RL.nil <| CW.condP rfl (fun h14 => ?_) (fun h14 => ?_)
  ·refine CW.skip <| CW.seq <| CW.block <| CW.seq <| CW.regionD (by kernel_rfl) hH12 <| fun w15 hH16 => have zh16 := hH16.sub sR; AQ 0 rfl zh16 (run_move e5_12) <| AQ 1 rfl zh16 (fA underlying42 1 rfl sizeOf40 e2_12) <| AT 2 rfl zh16 (fun w hS => run_ld underlying40 rfl rfl (hS.cell (i := 1) rfl rfl)) <| AT 3 rfl zh16 (fun w hS => run_lenSl (hs.facs.sl.hp hS) rfl underlying40 rfl) <| AQ 4 rfl zh16 (run_lss rfl rfl) <| AQ 5 rfl zh16 (mV (B _) rfl) <| AN.splitP (dj := 18) rfl (fun h18 => ?_) (fun h18 => ?_)
   ·refine AG 6 rfl rfl (bT h18) (hH16.sub sR) (fun w hS => fA underlying42 1 rfl sizeOf40 e2_12) <| AG 7 rfl rfl (bT h18) (hH16.sub sR) (fun w hS => run_ld underlying40 rfl rfl (hS.cell (i := 1) rfl rfl)) <| AG 8 rfl rfl (bT h18) (hH16.sub sR) (fun w hS => run_move e5_12) <| AG 9 rfl rfl (bT h18) (hH16.sub sR) (fun w hS => run_indexAddrS (hs.facs.sl.hp hS) underlying40 sizeOf59 rfl rfl (by omega)) <| AG 10 rfl rfl (bT h18) (hH16.sub sR) (fun w hS => run_ldE (dv := fac0) facL_len (hs.facs.sl.hp hS) underlying59 rfl rfl rfl (by omega)) <| AG 11 rfl rfl (bT h18) (hH16.sub sR) (fun w hS => run_move e5_12) <| AG 12 rfl rfl (bT h18) (hH16.sub sR) (fun w hS => run_indexAddrA underlying51 sizeOf49 e3_12 rfl (by omega)) <| AG 13 rfl rfl (bT h18) (hH16.sub sR) (fun w hS => run_ld underlying49 rfl rfl (hS.cell (i := 0) rfl (elC_at _ (by omega)))) <| A1 14 <| AO.callP rfl (gsome rfl (bT h18)) rfl hH16 sR (c_clearanceref07_word _ _ (by have hat := sh_at hr (k := k) h0 (by omega); rw [sh_get] at hat; exact hat) _ ((hs.at (by omega) (by omega)).mono hH16.kw)) (run_call2 call56 rfl rfl) <| fun w19 hH20 => AG 15 rfl rfl (bT h18) (hH20.sub sR) (fun w hS => run_not rfl) <| have zh20 := hH20.sub sR; AQ 16 rfl zh20 (run_pickT (bT h18) (v := B _) rfl) <| AQ 17 rfl zh20 (mV (B _) rfl) <| AN.split (dj := 30) rfl (fun h23 => ?_) (fun h23 => ?_)
    ·refine AK 18 rfl rfl (bR (c := true) h23) (hH20.sub sR) <| AK 19 rfl rfl (bR (c := true) h23) (hH20.sub sR) <| AK 20 rfl rfl (bR (c := true) h23) (hH20.sub sR) <| AK 21 rfl rfl (bR (c := true) h23) (hH20.sub sR) <| AK 22 rfl rfl (bR (c := true) h23) (hH20.sub sR) <| AK 23 rfl rfl (bR (c := true) h23) (hH20.sub sR) <| AU 24 rfl rfl rfl (hH20.sub sR) <| AU 25 rfl rfl rfl (hH20.sub sR) <| AU 26 rfl rfl rfl (hH20.sub sR) <| AU 27 rfl rfl rfl (hH20.sub sR) <| AK 28 rfl rfl (bR (c := true) h23) (hH20.sub sR) <| AQ 29 rfl zh20 (run_pickT (bR (c := true) h23) (v := B true) rfl) <| AD <| CW.condT rfl <| SR <| va (v := B false) rfl <| RL.nil <| CW.ret <| outP1 Tryz.results27 (congrArg B ?_) hH20.below
     exact (fits_no2 h0 ‹_› (by omega) (by rw [sh_get]; exact nt ‹_›)).symm
    ·refine AG 18 rfl rfl (bR (c := false) h23) (hH20.sub sR) (fun w hS => run_move e5_12) <| AG 19 rfl rfl (bR (c := false) h23) (hH20.sub sR) (fun w hS => fA underlying42 1 rfl sizeOf40 e2_12) <| AG 20 rfl rfl (bR (c := false) h23) (hH20.sub sR) (fun w hS => run_ld underlying40 rfl rfl (hS.cell (i := 1) rfl rfl)) <| AG 21 rfl rfl (bR (c := false) h23) (hH20.sub sR) (fun w hS => run_lenSl (hs.facs.sl.hp hS) rfl underlying40 rfl) <| AG 22 rfl rfl (bR (c := false) h23) (hH20.sub sR) (fun w hS => run_geq rfl rfl) <| AG 23 rfl rfl (bR (c := false) h23) (hH20.sub sR) (fun w hS => mV (B _) rfl) <| AN.splitP (dj := 36) rfl (fun h25 => ?_) (fun h25 => ?_)
     ·refine AG 24 rfl rfl (bT h25) (hH20.sub sR) (fun w hS => run_move e5_12) <| AG 25 rfl rfl (bT h25) (hH20.sub sR) (fun w hS => run_indexAddrA underlying51 sizeOf49 e3_12 rfl (by omega)) <| AG 26 rfl rfl (bT h25) (hH20.sub sR) (fun w hS => run_ld underlying49 rfl rfl (hS.cell (i := 0) rfl (elC_at _ (by omega)))) <| AG 27 rfl rfl (bT h25) (hH20.sub sR) (fun w hS => run_neqU rfl (b := 0#64) rfl) <| AG 28 rfl rfl (bR (c := false) h23) (hH20.sub sR) (fun w hS => run_pickT (bT h25) (v := B _) rfl) <| AQ 29 rfl zh20 (run_pickF (bR (c := false) h23) (v := B _) rfl) <| AD <| CW.condP rfl (fun h27 => ?_) (fun h27 => ?_)
      ·refine SR <| va (v := B false) rfl <| RL.nil <| CW.ret <| outP1 Tryz.results27 (congrArg B ?_) hH20.below
       exact (fits_no3 h0 ‹_› (by omega) ‹_›).symm
      ·refine CW.skip <| CW.region <| vm e5_12 <| V (run_add rfl rfl (by omega)) <| aI rfl <| RL.nil <| ?_
       refine ⟨k + 1, ?_, fr12.u4.u4.u4.u4.u4.u4.u4.u4.u1.u1.u1, hH20, (congrArg I (by rfl)), ?_, ?_, ?_⟩
       ·((try dsimp only); omega)
       ·omega
       ·omega
       ·exact hf.next (fun h => by exfalso; omega) (fun h => by exact Decidable.of_not_not ‹_›)
     ·refine AK 24 rfl rfl (bF h25) (hH20.sub sR) <| AK 25 rfl rfl (bF h25) (hH20.sub sR) <| AK 26 rfl rfl (bF h25) (hH20.sub sR) <| AK 27 rfl rfl (bF h25) (hH20.sub sR) <| AG 28 rfl rfl (bR (c := false) h23) (hH20.sub sR) (fun w hS => run_pickF (bF h25) (v := B false) rfl) <| AQ 29 rfl zh20 (run_pickF (bR (c := false) h23) (v := B _) rfl) <| AD <| CW.condF rfl <| CW.skip <| CW.region <| vm e5_12 <| V (run_add rfl rfl (by omega)) <| aI rfl <| RL.nil <| ?_
      refine ⟨k + 1, ?_, fr12.u4.u4.u4.u4.u4.u4.u4.u4.u1.u1.u1, hH20, (congrArg I (by rfl)), ?_, ?_, ?_⟩
      ·((try dsimp only); omega)
      ·omega
      ·omega
      ·exact hf.next (fun h => by rw [sh_get]; exact nf ‹_›) (fun h => by exfalso; omega)
   ·refine AK 6 rfl rfl (bF h18) (hH16.sub sR) <| AK 7 rfl rfl (bF h18) (hH16.sub sR) <| AK 8 rfl rfl (bF h18) (hH16.sub sR) <| AK 9 rfl rfl (bF h18) (hH16.sub sR) <| AK 10 rfl rfl (bF h18) (hH16.sub sR) <| AK 11 rfl rfl (bF h18) (hH16.sub sR) <| AK 12 rfl rfl (bF h18) (hH16.sub sR) <| AK 13 rfl rfl (bF h18) (hH16.sub sR) <| AK 14 rfl rfl (bF h18) (hH16.sub sR) <| AK 15 rfl rfl (bF h18) (hH16.sub sR) <| AQ 16 rfl zh16 (run_pickF (bF h18) (v := B false) rfl) <| AQ 17 rfl zh16 (mV (B _) rfl) <| AG 18 rfl rfl rfl (hH16.sub sR) (fun w hS => run_move e5_12) <| AG 19 rfl rfl rfl (hH16.sub sR) (fun w hS => fA underlying42 1 rfl sizeOf40 e2_12) <| AG 20 rfl rfl rfl (hH16.sub sR) (fun w hS => run_ld underlying40 rfl rfl (hS.cell (i := 1) rfl rfl)) <| AG 21 rfl rfl rfl (hH16.sub sR) (fun w hS => run_lenSl (hs.facs.sl.hp hS) rfl underlying40 rfl) <| AG 22 rfl rfl rfl (hH16.sub sR) (fun w hS => run_geq rfl rfl) <| AG 23 rfl rfl rfl (hH16.sub sR) (fun w hS => mV (B _) rfl) <| AN.splitP (dj := 36) rfl (fun h29 => ?_) (fun h29 => ?_)
    ·refine AG 24 rfl rfl (bT h29) (hH16.sub sR) (fun w hS => run_move e5_12) <| AG 25 rfl rfl (bT h29) (hH16.sub sR) (fun w hS => run_indexAddrA underlying51 sizeOf49 e3_12 rfl (by omega)) <| AG 26 rfl rfl (bT h29) (hH16.sub sR) (fun w hS => run_ld underlying49 rfl rfl (hS.cell (i := 0) rfl (elC_at _ (by omega)))) <| AG 27 rfl rfl (bT h29) (hH16.sub sR) (fun w hS => run_neqU rfl (b := 0#64) rfl) <| AG 28 rfl rfl rfl (hH16.sub sR) (fun w hS => run_pickT (bT h29) (v := B _) rfl) <| AQ 29 rfl zh16 (run_pickF rfl (v := B _) rfl) <| AD <| CW.condP rfl (fun h31 => ?_) (fun h31 => ?_)
     ·refine SR <| va (v := B false) rfl <| RL.nil <| CW.ret <| outP1 Tryz.results27 (congrArg B ?_) hH16.below
      exact (fits_no3 h0 ‹_› (by omega) ‹_›).symm
     ·refine CW.skip <| CW.region <| vm e5_12 <| V (run_add rfl rfl (by omega)) <| aI rfl <| RL.nil <| ?_
      refine ⟨k + 1, ?_, fr12.u4.u4.u4.u4.u4.u4.u4.u4.u1.u1.u1, hH16, (congrArg I (by rfl)), ?_, ?_, ?_⟩
      ·((try dsimp only); omega)
      ·omega
      ·omega
      ·exact hf.next (fun h => by exfalso; omega) (fun h => by exact Decidable.of_not_not ‹_›)
    ·refine AK 24 rfl rfl (bF h29) (hH16.sub sR) <| AK 25 rfl rfl (bF h29) (hH16.sub sR) <| AK 26 rfl rfl (bF h29) (hH16.sub sR) <| AK 27 rfl rfl (bF h29) (hH16.sub sR) <| AG 28 rfl rfl rfl (hH16.sub sR) (fun w hS => run_pickF (bF h29) (v := B false) rfl) <| AQ 29 rfl zh16 (run_pickF rfl (v := B _) rfl) <| AD <| CW.condF rfl <| CW.skip <| CW.region <| vm e5_12 <| V (run_add rfl rfl (by omega)) <| aI rfl <| RL.nil <| ?_
     refine ⟨k + 1, ?_, fr12.u4.u4.u4.u4.u4.u4.u4.u4.u1.u1.u1, hH16, (congrArg I (by rfl)), ?_, ?_, ?_⟩
     ·((try dsimp only); omega)
     ·omega
     ·omega
     ·exact hf.next (fun h => by exfalso; omega) (fun h => by exfalso; omega)
  ·refine CW.exit (id := 0) rfl <| SR <| va (v := B true) rfl <| RL.nil <| CW.ret <| outP1 Tryz.results27 (congrArg B ?_) hH12.below
   exact (fits_yes hr ‹_› hf).symm
theorem c_clearanceref07_End (s : Shp) (t : Bool) (w : World) (hs : ShpV (Kw w) s) : Calls Tryz.prog 32 #[.agg (shpC s), B t] w (Pure (.agg (elC (eachS s.sh (endF t)))) w) := by
 have hsl := sh_len s
 have hm := hs.facs.sl.small
 unfold maxLen at hm
 refine enter Tryz.func32 rfl Tryz.ntmps32 rfl <| have hH := Hp.start w; SR <| RL.new rfl hH (f := fun b => (.pointer (some ⟨b, 0, none⟩))) (run_box (v := .agg _) rfl) <| fun b4 w2 hH3 => RL.new rfl hH3 (f := fun b => (.pointer (some ⟨b, 0, none⟩))) (run_alloc zero_el) <| fun b7 w5 hH6 => RL.nil <| SR <| RL.new rfl hH6 (f := fun b => (.pointer (some ⟨b, 0, none⟩))) (run_alloc zero_el) <| fun b10 w8 hH9 => RL.nil <| CW.seq <| SR <| va (v := I 0) rfl <| RL.nil <| CW.block <| CW.loop (G := Int × El) (fun ⟨k, e1⟩ s' w' => (Fr (rg 6 67 []) _ s') ∧ (Hp w w' (.blk b10 (.cells (elC e1) 51 (0, 0)) :: _)) ∧ (s' 6 = I k) ∧ (0 ≤ k) ∧ (shR s.sh = true → k ≤ s.facs.length) ∧ (shR s.sh = true → e1 = mixE (eachS s.sh (endF t)) el0 k) ∧ (shR s.sh = false → e1 = el0)) (fun ⟨k, e1⟩ => (9 - k).toNat) ((0, el0)) ⟨Fr.refl _ _, hH9, rfl, (by omega), (fun h => by omega), (fun _ => (mix_zero _ _).symm), fun _ => rfl⟩ <| ?_
 rintro ⟨k, e1⟩ sg11 w11 ⟨fr11, hH11, e6_11, h0, hk, hr, hz⟩
 have e1_11 := fr11.bb 1 rfl rfl
 have e2_11 := fr11.pp 2 rfl rfl
 have e4_11 := fr11.pp 4 rfl rfl
 have e5_11 := fr11.pp 5 rfl rfl
 refine CW.seq <| SR <| V (run_ldA (cs := [B _, _]) underlying42 rfl rfl e2_11 (rangeAt_cells (hH11.blk (i := 2) rfl))) <| RL.callP rfl hH11 (c_clearanceref07_Right _  _ (hs.mono hH11.kw)) (run_call1 call48 rfl) <| fun w12 hH13 => mB rfl <| RL.split (dj := 13) rfl (fun h15 => ?_) (fun h15 => ?_)
 ·refine gT rfl (bR (c := true) h15) <| vm e6_11 <| gT rfl (bR (c := true) h15) <| V (fA underlying42 1 rfl sizeOf40 e2_11) <| gT rfl (bR (c := true) h15) <| V (run_ld underlying40 rfl rfl (hH13.cell (i := 2) rfl rfl)) <| gT rfl (bR (c := true) h15) <| V (run_lenSl (hs.facs.sl.hp hH13) rfl underlying40 rfl) <| gT rfl (bR (c := true) h15) <| V (run_lss rfl rfl) <| V (run_pickT (bR (c := true) h15) (v := B _) rfl) <| RL.nil <| CW.condP rfl (fun h17 => ?_) (fun h17 => ?_)
  ·refine CW.skip <| CW.seq <| CW.block <| SR <| V (fA underlying42 1 rfl sizeOf40 e2_11) <| V (run_ld underlying40 rfl rfl (hH13.cell (i := 2) rfl rfl)) <| vm e6_11 <| V (run_indexAddrS (hs.facs.sl.hp hH13) underlying40 sizeOf59 rfl rfl (by omega)) <| V (run_ldE (dv := fac0) facL_len (hs.facs.sl.hp hH13) underlying59 rfl rfl rfl (by omega)) <| RL.new rfl hH13 (f := fun b => (.pointer (some ⟨b, 0, none⟩))) (run_alloc zero_fac) <| fun b20 w18 hH19 => RL.set hH19 (i := 0) rfl (run_stFac (hs.at (by omega) (by omega)) rfl rfl rfl (hH19.blk (i := 0) rfl)) <| fun w21 hH22 => ?_
   simp only [z2] at hH22
   refine RL.nil <| SR <| V (fA underlying59 1 rfl sizeOf54 rfl) <| V (run_ld underlying54 rfl rfl (hH22.cell (i := 0) rfl rfl)) <| V (run_lenSl ((hs.at (by omega) (by omega)).names.sl.hp hH22) rfl underlying54 rfl) <| aI rfl <| RL.nil <| SR <| V (fA underlying59 0 rfl sizeOf3 rfl) <| V (run_ld underlying3 rfl rfl (hH22.cell (i := 0) rfl (v := I _) rfl)) <| V (run_eql rfl rfl) <| RL.nil <| CW.condP rfl (fun h24 => ?_) (fun h24 => ?_)
   ·refine SR <| V (fA underlying59 2 rfl sizeOf57 rfl) <| V (run_ldBR underlying57 rfl rfl rfl (hH22.blk (i := 0) rfl)) <| vm e1_11 <| RL.callP rfl hH22 (c_clearanceref06_End _ _  _) (run_call2 call60 rfl rfl) <| fun w25 hH26 => ?_
    refine V (run_move (by conv => lhs; whnf)) ?_
    refine V (run_extract rfl (v := I _) rfl) <| V (run_extract rfl (v := B _) rfl) <| aI rfl <| aB rfl <| RL.nil <| CW.region <| vm e6_11 <| V (fA underlying59 2 rfl sizeOf57 rfl) <| V (run_ldBR underlying57 rfl rfl rfl (hH26.blk (i := 0) rfl)) <| mI rfl <| RL.callP rfl hH26 (c_clearanceref06_Word _ _  _) (run_call2 call61 rfl rfl) <| fun w28 hH29 => V (run_indexAddrA underlying51 sizeOf49 e5_11 rfl (by have hln := (sh_spec ‹shR s.sh = true›).1; omega)) <| RL.set hH29 (i := 1) rfl (run_st rfl rfl (v := U _) rfl rfl rfl (hH29.blk (i := 1) rfl) (by rw [elC_size]; have hln := (sh_spec ‹shR s.sh = true›).1; omega)) <| fun w30 hH31 => ?_
    simp only [z2] at hH31
    rw [elC_put] at hH31
    refine RL.nil <| CW.region <| vm e6_11 <| V (run_add rfl rfl (by have hfat := sh_at ‹shR s.sh = true› h0 (show k < s.sh.facs.length by omega); rw [sh_get] at hfat; have := (fac_spec hfat).1; have : (s.facs.getD k.toNat fac0).fc.names = (s.facs.getD k.toNat fac0).names := rfl; omega)) <| aI rfl <| RL.nil <| ?_
    refine ⟨(k + 1, _), ?_, fr11.u4.u4.u4.u4.u4.u4.u4.u4.u4.u4, (hH31.sub (sQ sR)), (congrArg I (by rfl)), ?_, ?_, ?_, ?_⟩
    ·have hln := (sh_spec ‹shR s.sh = true›).1; ((try dsimp only); omega)
    ·omega
    ·exact fun h => by omega
    ·exact fun _ => by ((have hp := each_put (f := endF t) ‹shR s.sh = true› (hr ‹_›) h0 (show k < s.sh.facs.length by omega); rw [sh_get, ← end_4 (t := t) (show (s.facs.getD k.toNat fac0).kind = 4 from ‹_›)] at hp; exact hp))
    ·exact fun h => by rw [‹shR s.sh = true›] at h; cases h
   ·refine SR <| vm e1_11 <| mB rfl <| RL.split (dj := 47) rfl (fun h32 => ?_) (fun h32 => ?_)
    ·refine gT rfl (bR (c := true) h32) <| V (fA underlying59 0 rfl sizeOf3 rfl) <| gT rfl (bR (c := true) h32) <| V (run_ld underlying3 rfl rfl (hH22.cell (i := 0) rfl (v := I _) rfl)) <| gT rfl (bR (c := true) h32) <| V (run_eql rfl rfl) <| V (run_pickT (bR (c := true) h32) (v := B _) rfl) <| RL.nil <| CW.condP rfl (fun h34 => ?_) (fun h34 => ?_)
     ·refine CW.region <| vm e6_11 <| V (fA underlying59 2 rfl sizeOf57 rfl) <| V (run_ldBR underlying57 rfl rfl rfl (hH22.blk (i := 0) rfl)) <| RL.callP rfl hH22 (c_clearanceref05_Top _  _) (run_call1 call62 rfl) <| fun w35 hH36 => V (run_indexAddrA underlying51 sizeOf49 e5_11 rfl (by have hln := (sh_spec ‹shR s.sh = true›).1; omega)) <| RL.set hH36 (i := 1) rfl (run_st rfl rfl (v := U _) rfl rfl rfl (hH36.blk (i := 1) rfl) (by rw [elC_size]; have hln := (sh_spec ‹shR s.sh = true›).1; omega)) <| fun w37 hH38 => ?_
      simp only [z2] at hH38
      rw [elC_put] at hH38
      refine RL.nil <| CW.region <| vm e6_11 <| V (run_add rfl rfl (by have hfat := sh_at ‹shR s.sh = true› h0 (show k < s.sh.facs.length by omega); rw [sh_get] at hfat; have := (fac_spec hfat).1; have : (s.facs.getD k.toNat fac0).fc.names = (s.facs.getD k.toNat fac0).names := rfl; omega)) <| aI rfl <| RL.nil <| ?_
      refine ⟨(k + 1, _), ?_, fr11.u4.u4.u4.u4.u4.u4.u4.u4.u4, (hH38.sub (sQ sR)), (congrArg I (by rfl)), ?_, ?_, ?_, ?_⟩
      ·have hln := (sh_spec ‹shR s.sh = true›).1; ((try dsimp only); omega)
      ·omega
      ·exact fun h => by omega
      ·exact fun _ => by ((have hp := each_put (f := endF t) ‹shR s.sh = true› (hr ‹_›) h0 (show k < s.sh.facs.length by omega); rw [sh_get, ← end_3 ‹t = true› (show (s.facs.getD k.toNat fac0).kind = 3 from ‹_›)] at hp; exact hp))
      ·exact fun h => by rw [‹shR s.sh = true›] at h; cases h
     ·refine SR <| vm e1_11 <| mB rfl <| gT rfl (bR (c := true) h32) <| V (fA underlying59 0 rfl sizeOf3 rfl) <| gT rfl (bR (c := true) h32) <| V (run_ld underlying3 rfl rfl (hH22.cell (i := 0) rfl (v := I _) rfl)) <| gT rfl (bR (c := true) h32) <| V (run_eql rfl rfl) <| V (run_pickT (bR (c := true) h32) (v := B _) rfl) <| RL.nil <| CW.condP rfl (fun h40 => ?_) (fun h40 => ?_)
      ·refine CW.region <| vm e6_11 <| mI rfl <| RL.callP rfl hH22 (c_clearanceref01_Below _  _) (run_call1 call63 rfl) <| fun w41 hH42 => V (run_indexAddrA underlying51 sizeOf49 e5_11 rfl (by have hln := (sh_spec ‹shR s.sh = true›).1; omega)) <| RL.set hH42 (i := 1) rfl (run_st rfl rfl (v := U _) rfl rfl rfl (hH42.blk (i := 1) rfl) (by rw [elC_size]; have hln := (sh_spec ‹shR s.sh = true›).1; omega)) <| fun w43 hH44 => ?_
       simp only [z2] at hH44
       rw [elC_put] at hH44
       refine RL.nil <| CW.region <| vm e6_11 <| V (run_add rfl rfl (by have hfat := sh_at ‹shR s.sh = true› h0 (show k < s.sh.facs.length by omega); rw [sh_get] at hfat; have := (fac_spec hfat).1; have : (s.facs.getD k.toNat fac0).fc.names = (s.facs.getD k.toNat fac0).names := rfl; omega)) <| aI rfl <| RL.nil <| ?_
       refine ⟨(k + 1, _), ?_, fr11.u4.u4.u4.u4.u4.u4.u4.u4.u4.u4.u1, (hH44.sub (sQ sR)), (congrArg I (by rfl)), ?_, ?_, ?_, ?_⟩
       ·have hln := (sh_spec ‹shR s.sh = true›).1; ((try dsimp only); omega)
       ·omega
       ·exact fun h => by omega
       ·exact fun _ => by ((have hp := each_put (f := endF t) ‹shR s.sh = true› (hr ‹_›) h0 (show k < s.sh.facs.length by omega); rw [sh_get, ← end_2 ‹t = true› (show (s.facs.getD k.toNat fac0).kind = 2 from ‹_›)] at hp; exact hp))
       ·exact fun h => by rw [‹shR s.sh = true›] at h; cases h
      ·refine SR <| vm e1_11 <| RL.nil <| CW.condT (bR (c := true) h32) <| CW.region <| vm e6_11 <| mI rfl <| V (run_sub rfl rfl (by have hfat := sh_at ‹shR s.sh = true› h0 (show k < s.sh.facs.length by omega); rw [sh_get] at hfat; have := (fac_spec hfat).1; have : (s.facs.getD k.toNat fac0).fc.names = (s.facs.getD k.toNat fac0).names := rfl; ((simp only [Fac.fc] at *; omega)))) <| RL.callP rfl hH22 (c_clearanceref01_Below _  _) (run_call1 call63 rfl) <| fun w45 hH46 => V (run_indexAddrA underlying51 sizeOf49 e5_11 rfl (by have hln := (sh_spec ‹shR s.sh = true›).1; omega)) <| RL.set hH46 (i := 1) rfl (run_st rfl rfl (v := U _) rfl rfl rfl (hH46.blk (i := 1) rfl) (by rw [elC_size]; have hln := (sh_spec ‹shR s.sh = true›).1; omega)) <| fun w47 hH48 => ?_
       simp only [z2] at hH48
       rw [elC_put] at hH48
       refine RL.nil <| CW.region <| vm e6_11 <| V (run_add rfl rfl (by have hfat := sh_at ‹shR s.sh = true› h0 (show k < s.sh.facs.length by omega); rw [sh_get] at hfat; have := (fac_spec hfat).1; have : (s.facs.getD k.toNat fac0).fc.names = (s.facs.getD k.toNat fac0).names := rfl; omega)) <| aI rfl <| RL.nil <| ?_
       refine ⟨(k + 1, _), ?_, fr11.u4.u4.u4.u4.u4.u4.u4.u4.u4.u4.u1.u1.u1, (hH48.sub (sQ sR)), (congrArg I (by rfl)), ?_, ?_, ?_, ?_⟩
       ·have hln := (sh_spec ‹shR s.sh = true›).1; ((try dsimp only); omega)
       ·omega
       ·exact fun h => by omega
       ·exact fun _ => by ((have hp := each_put (f := endF t) ‹shR s.sh = true› (hr ‹_›) h0 (show k < s.sh.facs.length by omega); rw [sh_get, ← end_1 (by have hat := sh_at ‹shR s.sh = true› (k := k) h0 (by omega); rw [sh_get] at hat; exact hat) ‹t = true› (show ¬ (s.facs.getD k.toNat fac0).kind = 2 from ‹_›) (show ¬ (s.facs.getD k.toNat fac0).kind = 3 from ‹_›) (show ¬ (s.facs.getD k.toNat fac0).kind = 4 from ‹_›)] at hp; exact hp))
       ·exact fun h => by rw [‹shR s.sh = true›] at h; cases h
    ·refine gF rfl (bR (c := false) h32) <| gF rfl (bR (c := false) h32) <| gF rfl (bR (c := false) h32) <| V (run_pickF (bR (c := false) h32) (v := B false) rfl) <| RL.nil <| CW.condF rfl <| SR <| vm e1_11 <| mB rfl <| gF rfl (bR (c := false) h32) <| gF rfl (bR (c := false) h32) <| gF rfl (bR (c := false) h32) <| V (run_pickF (bR (c := false) h32) (v := B false) rfl) <| RL.nil <| CW.condF rfl <| SR <| vm e1_11 <| RL.nil <| CW.condF (bR (c := false) h32) <| CW.skip <| CW.region <| vm e6_11 <| V (run_add rfl rfl (by have hfat := sh_at ‹shR s.sh = true› h0 (show k < s.sh.facs.length by omega); rw [sh_get] at hfat; have := (fac_spec hfat).1; have : (s.facs.getD k.toNat fac0).fc.names = (s.facs.getD k.toNat fac0).names := rfl; omega)) <| aI rfl <| RL.nil <| ?_
     refine ⟨(k + 1, _), ?_, fr11.u4.u4.u4.u4.u4.u4.u4.u4.u4.u1.u1, (hH22.sub (sQ sR)), (congrArg I (by rfl)), ?_, ?_, ?_, ?_⟩
     ·have hln := (sh_spec ‹shR s.sh = true›).1; ((try dsimp only); omega)
     ·omega
     ·exact fun h => by omega
     ·exact fun _ => by (exact each_skip ‹shR s.sh = true› (hr ‹_›) h0 (show k < s.sh.facs.length by omega) (by rw [sh_get]; exact end_0 ‹_› (show ¬ (s.facs.getD k.toNat fac0).kind = 4 from ‹_›)))
     ·exact fun h => by rw [‹shR s.sh = true›] at h; cases h
  ·refine CW.exit (id := 0) rfl <| SR <| V (run_ldEl underlying51 rfl rfl e5_11 (hH13.blk (i := 0) rfl)) <| RL.set hH13 (i := 1) rfl (run_stEl rfl e4_11 rfl (hH13.blk (i := 1) rfl)) <| fun w49 hH50 => ?_
   simp only [z2] at hH50
   refine RL.nil <| CW.ret <| outCg Tryz.results32 e4_11 hH50 (i := 1) rfl underlying51 rfl (by rw [elC_size]; rfl) ⟨?_, hH50.below⟩
   exact congrArg Value.agg (elC_congr (by rw [hr ‹_›]; exact each_all (by have := hk ‹_›; omega)))
 ·refine gF rfl (bR (c := false) h15) <| gF rfl (bR (c := false) h15) <| gF rfl (bR (c := false) h15) <| gF rfl (bR (c := false) h15) <| gF rfl (bR (c := false) h15) <| V (run_pickF (bR (c := false) h15) (v := B false) rfl) <| RL.nil <| CW.condF rfl <| CW.exit (id := 0) rfl <| SR <| V (run_ldEl underlying51 rfl rfl e5_11 (hH13.blk (i := 0) rfl)) <| RL.set hH13 (i := 1) rfl (run_stEl rfl e4_11 rfl (hH13.blk (i := 1) rfl)) <| fun w51 hH52 => ?_
  simp only [z2] at hH52
  refine RL.nil <| CW.ret <| outCg Tryz.results32 e4_11 hH52 (i := 1) rfl underlying51 rfl (by rw [elC_size]; rfl) ⟨?_, hH52.below⟩
  exact congrArg Value.agg (elC_congr (by rw [hz ‹_›]; exact each_no ‹_›))
theorem c_clearancelaw07_Big (s : Shp) (w : World) (hs : ShpV (Kw w) s) : Calls Tryz.prog 22 #[.agg (shpC s)] w (Pure (B (bigS s.sh)) w) := by
 have hsl := sh_len s
 have hm := hs.facs.sl.small
 unfold maxLen at hm
 refine enter Tryz.func22 rfl Tryz.ntmps22 rfl <| have hH := Hp.start w; SR <| RL.new rfl hH (f := fun b => (.pointer (some ⟨b, 0, none⟩))) (run_box (v := .agg _) rfl) <| fun b3 w1 hH2 => va (v := B false) rfl <| RL.nil <| CW.seq <| SR <| V (fA underlying42 1 rfl sizeOf40 rfl) <| V (run_ld underlying40 rfl rfl (hH2.cell (i := 0) rfl rfl)) <| V (run_lenSl (hs.facs.sl.hp hH2) rfl underlying40 rfl) <| V (run_gtr rfl rfl) <| RL.nil <| CW.condP rfl (fun h5 => ?_) (fun h5 => ?_)
 ·refine SR <| va (v := B true) rfl <| RL.nil <| CW.ret <| outP1 Tryz.results22 (congrArg B ?_) hH2.below
  exact (big_1 (s := s.sh) (by omega)).symm
 ·refine CW.skip <| CW.seq <| SR <| va (v := I 0) rfl <| RL.nil <| CW.block <| CW.loop (G := Int) (fun k s' w' => (Fr (rg 2 4 (rg 10 30 [])) _ s') ∧ (Hp w w' _) ∧ (s' 3 = I k) ∧ (0 ≤ k) ∧ (k ≤ s.facs.length) ∧ (∀ j : Int, 0 ≤ j → j < k → bigN (s.facs.getD j.toNat fac0).names = false)) (fun k => (s.facs.length - k).toNat) (0) ⟨Fr.refl _ _, hH2, rfl, (by omega), (by omega), fun j a b => absurd b (by omega)⟩ <| ?_
  rintro k sg6 w6 ⟨fr6, hH6, e3_6, h0, hk, hg⟩
  have e1_6 := fr6.pp 1 rfl rfl
  refine CW.seq <| SR <| vm e3_6 <| V (fA underlying42 1 rfl sizeOf40 e1_6) <| V (run_ld underlying40 rfl rfl (hH6.cell (i := 0) rfl rfl)) <| V (run_lenSl (hs.facs.sl.hp hH6) rfl underlying40 rfl) <| V (run_lss rfl rfl) <| RL.nil <| CW.condP rfl (fun h8 => ?_) (fun h8 => ?_)
  ·refine CW.skip <| CW.seq <| CW.block <| SR <| V (fA underlying42 1 rfl sizeOf40 e1_6) <| V (run_ld underlying40 rfl rfl (hH6.cell (i := 0) rfl rfl)) <| vm e3_6 <| V (run_indexAddrS (hs.facs.sl.hp hH6) underlying40 sizeOf59 rfl rfl (by omega)) <| V (run_ldE (dv := fac0) facL_len (hs.facs.sl.hp hH6) underlying59 rfl rfl rfl (by omega)) <| RL.new rfl hH6 (f := fun b => (.pointer (some ⟨b, 0, none⟩))) (run_alloc zero_fac) <| fun b11 w9 hH10 => RL.set hH10 (i := 0) rfl (run_stFac (hs.at (by omega) (by omega)) rfl rfl rfl (hH10.blk (i := 0) rfl)) <| fun w12 hH13 => ?_
   simp only [z2] at hH13
   refine RL.nil <| CW.seq <| SR <| V (fA underlying59 1 rfl sizeOf54 rfl) <| V (run_ld underlying54 rfl rfl (hH13.cell (i := 0) rfl rfl)) <| V (run_lenSl ((hs.at (by omega) (by omega)).names.sl.hp hH13) rfl underlying54 rfl) <| V (run_gtr rfl rfl) <| RL.nil <| CW.condP rfl (fun h15 => ?_) (fun h15 => ?_)
   ·refine SR <| va (v := B true) rfl <| RL.nil <| CW.ret <| outP1 Tryz.results22 (congrArg B ?_) hH13.below
    exact (big_2 (s := s.sh) (k := k) h0 (by omega) (by rw [sh_get]; (exact bigN_1 (by show 70 < (s.facs.getD k.toNat fac0).names.length; omega)))).symm
   ·refine CW.skip <| SR <| va (v := I 0) rfl <| RL.nil <| CW.block <| have hnb : (s.facs.getD k.toNat fac0).names.length ≤ 70 := (by omega); CW.loop (G := Int) (fun i s' w' => (Fr (2 :: (5 :: (rg 26 14 []))) _ s') ∧ (Hp w w' _) ∧ (s' 5 = I i) ∧ (0 ≤ i) ∧ (i ≤ (s.facs.getD k.toNat fac0).names.length) ∧ (∀ j : Int, 0 ≤ j → j < i → ¬ 40 < ((s.facs.getD k.toNat fac0).names.getD j.toNat tx0).size)) (fun i => ((s.facs.getD k.toNat fac0).names.length - i).toNat) (0) ⟨Fr.refl _ _, hH13, rfl, (by omega), (by omega), fun j a b => absurd b (by omega)⟩ <| ?_
    rintro i sg16 w16 ⟨fr16, hH16, e5_16, i0, i1, hn⟩
    have e3_16 := (fr16 3 rfl).trans e3_6
    have e4_16 := fr16.pp 4 rfl rfl
    refine CW.seq <| SR <| vm e5_16 <| V (fA underlying59 1 rfl sizeOf54 e4_16) <| V (run_ld underlying54 rfl rfl (hH16.cell (i := 0) rfl rfl)) <| V (run_lenSl ((hs.at (by omega) (by omega)).names.sl.hp hH16) rfl underlying54 rfl) <| V (run_lss rfl rfl) <| RL.nil <| CW.condP rfl (fun h18 => ?_) (fun h18 => ?_)
    ·refine CW.skip <| CW.seq <| CW.block <| SR <| V (fA underlying59 1 rfl sizeOf54 e4_16) <| V (run_ld underlying54 rfl rfl (hH16.cell (i := 0) rfl rfl)) <| vm e5_16 <| V (run_indexAddrS ((hs.at (by omega) (by omega)).names.sl.hp hH16) underlying54 sizeOf9 rfl rfl (by omega)) <| V (run_ld underlying9 rfl rfl (((hs.at (by omega) (by omega)).names.sl.hp hH16).cell _ _ (txL_at (by omega)))) <| V (run_lenStr rfl underlying9 rfl) <| V (run_gtr rfl rfl) <| RL.nil <| CW.condP rfl (fun h20 => ?_) (fun h20 => ?_)
     ·refine SR <| va (v := B true) rfl <| RL.nil <| CW.ret <| outP1 Tryz.results22 (congrArg B ?_) hH16.below
      exact (big_2 (s := s.sh) (k := k) h0 (by omega) (by rw [sh_get]; (exact bigN_2 i0 ‹_› (by show 40 < ((s.facs.getD k.toNat fac0).names.getD i.toNat tx0).size; omega)))).symm
     ·refine CW.skip <| CW.region <| vm e5_16 <| V (run_add rfl rfl (by omega)) <| aI rfl <| RL.nil <| ?_
      refine ⟨i + 1, ?_, fr16.u4.u4.u4.u1.u1.u1, hH16, (congrArg I (by rfl)), ?_, ?_, ?_⟩
      ·((try dsimp only); omega)
      ·omega
      ·omega
      ·exact fun j a b => if e : j = i then e ▸ (by omega) else hn j a (by omega)
    ·refine CW.exit (id := 2) rfl <| CW.region <| vm e3_16 <| V (run_add rfl rfl (by omega)) <| aI rfl <| RL.nil <| ?_
     refine ⟨k + 1, ?_, (((fr6.u4.u4.u4.u4).t fr16 rfl)).u4.u4, (hH16.sub (sQ sR)), (congrArg I (by rfl)), ?_, ?_, ?_⟩
     ·((try dsimp only); omega)
     ·omega
     ·omega
     ·exact fun j a b => if e : j = k then e ▸ bigN_no (by omega) ‹¬ i < _› hn else hg j a (by omega)
  ·refine CW.exit (id := 0) rfl <| SR <| va (v := B false) rfl <| RL.nil <| CW.ret <| outP1 Tryz.results22 (congrArg B ?_) hH6.below
   exact (big_no (s := s.sh) (k := k) (by omega) (by omega) fun j a b => by rw [sh_get]; exact hg j a b).symm
theorem c_spell_kind (f : Fac) (w : World) : Calls Tryz.prog 119 #[.agg (facC f)] w (Pure (I (kindN f.fc)) w) := by
 refine enter Tryz.func119 rfl Tryz.ntmps119 rfl <| have hH := Hp.start w; SR <| RL.new rfl hH (f := fun b => (.pointer (some ⟨b, 0, none⟩))) (run_box (v := .agg _) rfl) <| fun b3 w1 hH2 => va (v := I 0) rfl <| RL.nil <| CW.seq <| SR <| V (fA underlying59 0 rfl sizeOf3 rfl) <| V (run_ld underlying3 rfl rfl (hH2.cell (i := 0) rfl (v := I _) rfl)) <| RL.nil <| CW.block <| SR <| V (run_eql rfl rfl) <| aB rfl <| RL.nil <| CW.condP rfl (fun h5 => ?_) (fun h5 => ?_)
 ·refine SR <| va (v := I 3) rfl <| RL.nil <| CW.ret <| outP1 Tryz.results119 (congrArg I ?_) hH2.below
  (simp [kindN, Fac.fc, *])
 ·refine SR <| V (run_eql rfl rfl) <| aB rfl <| RL.nil <| CW.condP rfl (fun h7 => ?_) (fun h7 => ?_)
  ·refine SR <| va (v := I 5) rfl <| RL.nil <| CW.ret <| outP1 Tryz.results119 (congrArg I ?_) hH2.below
   (simp [kindN, Fac.fc, *])
  ·refine CW.skip <| SR <| va (v := I 2) rfl <| RL.nil <| CW.ret <| outP1 Tryz.results119 (congrArg I ?_) hH2.below
   (simp [kindN, Fac.fc, *])
theorem c_spell_constant_1_1 (W0 : World) (b c : Nat) (v : Value) (l : List Int) (f : Fac) (i : Int) (hi : 0 ≤ i ∧ i < f.names.length) (w : World) (hH : Hp W0 w [.row v 128 2 l.length ((l.map (wdN f.names)).flatMap wdL), .blk b (.cells #[v] 93 (0, 0))]) (hlen : l.length ≤ 64) (hf : FacV (Kw W0) f) (hc : W0.heap[c]? = some (.cells (facC f) 59 (0, 0))) : Calls Tryz.prog 118 #[I i, .pointer (some ⟨b, 0, none⟩), .pointer (some ⟨c, 0, none⟩)] w (Ret fun u w' => u = B true ∧ ∃ v', Hp W0 w' [.row v' 128 2 (l ++ [i]).length (((l ++ [i]).map (wdN f.names)).flatMap wdL), .blk b (.cells #[v'] 93 (0, 0))]) := by
 refine enter Tryz.func118 rfl Tryz.ntmps118 rfl <| SR <| va (v := B false) rfl <| RL.nil <| CW.seq <| CW.regionS (by kernel_rfl) hH (sQ (sQ sR)) <| fun w1 hH2 => have zh2 := hH2.sub (sQ (sQ sR)); AQ 1 rfl zh2 (fA underlying59 1 rfl sizeOf54 rfl) <| AT 2 rfl zh2 (fun w hS => run_ld underlying54 rfl rfl (hS.extCell hc rfl)) <| AQ 3 rfl zh2 (mV (I _) rfl) <| AT 4 rfl zh2 (fun w hS => run_indexAddrS (hf.names.sl.hp hS) underlying54 sizeOf9 rfl rfl (by omega)) <| AT 5 rfl zh2 (fun w hS => run_ld underlying9 rfl rfl ((hf.names.sl.hp hS).cell _ _ (txL_at (by omega)))) <| AQ 6 rfl zh2 (run_bld (vs := [(0, S _)]) rfl (built_wdLs _)) <| AN.two 0 7 (by kernel_rfl) ?_ ?_
 ·refine AO.read rfl gnone rfl hH2 (sQ (sQ sR)) (run_ld underlying93 rfl rfl (hH2.cell (i := 1) rfl rfl)) <| A1 7 <| AO.new rfl gnone rfl hH2 (sQ (sQ sR)) (f := fun b => .slice (some ⟨b, 0, none⟩) 1 1) (run_mkRecs wdL_len underlying93 rfl rfl rfl (l := [_]) rfl (by decide) (by decide) rfl) <| fun b7 w5 hH6 => A1 8 <| AO.app rfl gnone rfl hH6 (j := 1) rfl (fun _ => (sQ (sQ (sQ sR)))) (Hp.slFlat wdL_len hH6 (i := 0) (l := [_]) rfl (by simp [maxLen])) rfl rfl underlying93 rfl rfl (size := 2) (bytes := 24) rfl rfl rfl (by decide) (by simp [wdL, Value.oneCell']) (by simp only [List.length_cons, List.length_nil]; omega) (by simp only [maxLen, List.length_cons, List.length_nil]; omega) <| fun v10 w8 hH9 => ?_
  simp only [z2] at hH9
  refine A1 9 <| AO.set rfl gnone hH9 (j := 2) rfl (sQ (sQ (sQ sR))) (run_st rfl rfl (v := v10) rfl (row_cells (hH9.get (i := 1) rfl)).1 (row_cells (hH9.get (i := 1) rfl)).2 (hH9.blk (i := 2) rfl) (by simp)) <| fun w11 hH12 => ?_
  simp only [z2] at hH12
  refine AD <| SR <| va (v := B true) rfl <| RL.nil <| CW.ret <| out1 Tryz.results118 rfl ⟨rfl, (v10 : Value), Hp.conv hH12.tail (by simp [wdN])⟩
 ·refine AO.new rfl gnone rfl hH2 (sQ (sQ sR)) (f := fun b => .slice (some ⟨b, 0, none⟩) 1 1) (run_mkRecs wdL_len underlying93 rfl rfl rfl (l := [_]) rfl (by decide) (by decide) rfl) <| fun b15 w13 hH14 => A1 0 <| AO.read rfl gnone rfl hH14 (sQ (sQ (sQ sR))) (run_ld underlying93 rfl rfl (hH14.cell (i := 2) rfl rfl)) <| A1 8 <| AO.app rfl gnone rfl hH14 (j := 1) rfl (fun _ => (sQ (sQ (sQ sR)))) (Hp.slFlat wdL_len hH14 (i := 0) (l := [_]) rfl (by simp [maxLen])) rfl rfl underlying93 rfl rfl (size := 2) (bytes := 24) rfl rfl rfl (by decide) (by simp [wdL, Value.oneCell']) (by simp only [List.length_cons, List.length_nil]; omega) (by simp only [maxLen, List.length_cons, List.length_nil]; omega) <| fun v20 w18 hH19 => ?_
  simp only [z2] at hH19
  refine A1 9 <| AO.set rfl gnone hH19 (j := 2) rfl (sQ (sQ (sQ sR))) (run_st rfl rfl (v := v20) rfl (row_cells (hH19.get (i := 1) rfl)).1 (row_cells (hH19.get (i := 1) rfl)).2 (hH19.blk (i := 2) rfl) (by simp)) <| fun w21 hH22 => ?_
  simp only [z2] at hH22
  refine AD <| SR <| va (v := B true) rfl <| RL.nil <| CW.ret <| out1 Tryz.results118 rfl ⟨rfl, (v20 : Value), Hp.conv hH22.tail (by simp [wdN])⟩
theorem c_spell_constant_1 (K : Vu) (c : Nat) (f : Fac) (s : BitVec 64) (hw : subB s (below f.names.length) = true) (w : World) (hK : Le K (Kw w)) (hf : FacV (Kw w) f) (hc : w.heap[c]? = some (.cells (facC f) 59 (0, 0))) (hT : Tab w) : Calls Tryz.prog 116 #[U s, .pointer (some ⟨c, 0, none⟩)] w (PureF K (fun K' u => SlV K' u 2 (namesOf f.names s).length ((namesOf f.names s).flatMap wdL)) w) := by
 refine enter Tryz.func116 rfl Tryz.ntmps116 rfl <| have hH := Hp.start w; SR <| va (v := .slice none 0 0) rfl <| RL.nil <| SR <| RL.new rfl hH (f := fun b => (.pointer (some ⟨b, 0, none⟩))) (run_alloc Tryz.zeroValue93) <| fun b3 w1 hH2 => have hH4 := hH2.nilRow 128 2; RL.nil <| SR <| mU rfl <| ?_
 refine V (run_mkF2 (by conv => lhs; whnf) (by conv => lhs; whnf)) ?_
 refine RL.call rfl (run_call2 call117 (v1 := U s) rfl (v2 := .func (.func 118) #[] #[.pointer (some ⟨b3, 0, none⟩), .pointer (some ⟨c, 0, none⟩)]) rfl) (c_mask_Each 118 _ (fun l w' => ∃ v, Hp w w' [.row v 128 2 l.length ((l.map (wdN f.names)).flatMap wdL), .blk b3 (.cells #[v] 93 (0, 0))]) (fun _ _ => False) s _ call118 (fun l w' w'' h hb => h.imp fun v h => h.call hb) (fun l w' h => h.elim fun v h => hT.hp h) (fun l i r w' he h => h.elim fun v h => by
   have hl64 : l.length ≤ 64 := by have := lst_len s; rw [he] at this; simp at this; omega
   have hi : 0 ≤ i ∧ i < f.names.length := lst_in hw (by rw [he]; simp)
   refine Ret.calls (c_spell_constant_1_1 w b3 c v l f i hi w' h hl64 hf hc) <| fun u w2 hq => ⟨true, hq.1, fun _ => hq.2, fun h => by cases h⟩) ⟨.slice none 0 0, hH4⟩) ?_
 rintro u w5 ⟨rfl, hor⟩
 obtain ⟨v7, hH6⟩ := hor.resolve_right (fun ⟨_, _, _, _, h⟩ => h)
 refine RL.nil <| SR <| V (run_ld underlying93 rfl rfl (hH6.cell (i := 1) rfl rfl)) <| ?_
 refine V (run_assign (by conv => lhs; whnf)) ?_
 refine RL.nil <| CW.ret <| ?_
 obtain ⟨Z8, hz9, hv10, -⟩ := hH6.frz (K)
 have hH11 : Hp _ w5 (_ :: Z8) := hz9.zin0 (L := [_])
 refine out1 Tryz.results116 rfl ⟨Z8, (hH11.sub (sQ sR)), ?_⟩
 rw [namesOf_def, List.length_map]; exact hv10
theorem c_clearanceref11_named (K : Vu) (v : Value) (l : List Tx) (x : BitVec 64) (hl : l.length ≤ 64) (hw : subB x (below l.length) = true) (w : World) (hK : Le K (Kw w)) (hs : Sl w v 1 l.length (txL l)) : Calls Tryz.prog 123 #[v, U x] w (PureF K (fun K' u => SlV K' u 2 (namesOf l x).length ((namesOf l x).flatMap wdL)) w) := by
 refine enter Tryz.func123 rfl Tryz.ntmps123 rfl <| have hH := Hp.start w; SR <| va (v := .slice none 0 0) rfl <| RL.nil <| SR <| va (v := .slice none 0 0) rfl <| have hH1 := hH.nilRow 128 2; RL.nil <| CW.seq <| SR <| va (v := I 0) rfl <| RL.nil <| CW.block <| CW.loop (G := Int × (List Wd) × Value) (fun ⟨k, m, v5⟩ s' w' => (Fr (rg 5 19 []) _ s') ∧ (Hp w w' (.row v5 128 2 (m.length) (m.flatMap wdL) :: _)) ∧ (s' 5 = v5) ∧ (s' 6 = I k) ∧ (0 ≤ k) ∧ (k ≤ l.length) ∧ (m = namedTo l x k) ∧ ((m.length : Int) ≤ k)) (fun ⟨k, m, v5⟩ => (l.length - k).toNat) ((0, [], (.slice none 0 0 : Value))) ⟨Fr.refl _ _, hH1, rfl, rfl, (by omega), (by omega), (named_0 l x).symm, (by simp)⟩ <| ?_
 rintro ⟨k, m, v5⟩ sg2 w2 ⟨fr2, hH2, e5_2, e6_2, h0, hk, hm, hml⟩
 have e0_2 := (fr2 0 rfl).trans (by conv => lhs; whnf)
 have e1_2 := fr2.uu 1 rfl rfl
 refine CW.seq <| SR <| vm e6_2 <| vm e0_2 <| V (run_lenSl (hs.hp hH2) rfl underlying54 rfl) <| V (run_lss rfl rfl) <| RL.nil <| CW.condP rfl (fun h4 => ?_) (fun h4 => ?_)
 ·refine CW.skip <| CW.seq <| CW.block <| SR <| vm e1_2 <| vm e6_2 <| RL.callP rfl hH2 (c_clearanceref01_Has _ _  _) (run_call2 call98 rfl rfl) <| fun w5 hH6 => RL.nil <| CW.cond rfl (fun h8 => ?_) (fun h8 => ?_)
  ·refine CW.region <| vm e5_2 <| vm e0_2 <| vm e6_2 <| V (run_indexAddrS (hs.hp hH6) underlying54 sizeOf9 rfl rfl (by omega)) <| V (run_ld underlying9 rfl rfl ((hs.hp hH6).cell _ _ (txL_at (by omega)))) <| V (run_bld (vs := [(0, S _)]) rfl (built_wdLs _)) <| RL.new rfl hH6 (f := fun b => (.slice (some ⟨b, 0, none⟩) 1 1)) (run_mkRecs wdL_len underlying93 rfl rfl rfl (l := [_]) rfl (by decide) (by decide) rfl) <| fun b11 w9 hH10 => RL.app rfl hH10 (i := 1) rfl (Hp.slFlat wdL_len hH10 (i := 0) (l := [_]) rfl (by simp [maxLen])) rfl rfl underlying93 rfl rfl (size := 2) (bytes := 24) rfl rfl rfl (by decide) (by simp [wdL, Value.oneCell']) (by simp only [List.length_cons, List.length_nil]; omega) (by simp only [maxLen, List.length_cons, List.length_nil]; omega) <| fun v12 w13 hH14 => ?_
   simp only [z2] at hH14
   refine V (run_assign (by conv => lhs; whnf)) ?_
   refine RL.nil <| CW.region <| vm e6_2 <| V (run_add rfl rfl (by omega)) <| aI rfl <| RL.nil <| ?_
   refine ⟨(k + 1, m ++ [wdN l k], v12), ?_, fr2.u4.u4.u4.u4.u1.u1.u1, (Hp.conv (hH14.sub (sQ sR)) (by simp [wdN]; done)), rfl, (congrArg I (by rfl)), ?_, ?_, ?_, ?_⟩
   ·((try dsimp only); omega)
   ·omega
   ·omega
   ·exact hm ▸ named_y h0 ‹hasB x k = true›
   ·(try simp only [List.length_append, List.length_singleton]); omega
  ·refine CW.skip <| CW.region <| vm e6_2 <| V (run_add rfl rfl (by omega)) <| aI rfl <| RL.nil <| ?_
   refine ⟨(k + 1, m, v5), ?_, fr2.u4.u4.u1.u1, (Hp.conv hH6 (by rfl)), e5_2, (congrArg I (by rfl)), ?_, ?_, ?_, ?_⟩
   ·((try dsimp only); omega)
   ·omega
   ·omega
   ·exact hm ▸ named_n h0 ‹hasB x k = false›
   ·(try simp only [List.length_append, List.length_singleton]); omega
 ·refine CW.exit (id := 0) rfl <| SR <| vm e5_2 <| ?_
  refine V (run_assign (by conv => lhs; whnf)) ?_
  refine RL.nil <| CW.ret <| ?_
  obtain ⟨Z15, hz16, hv17, -⟩ := hH2.frz (K)
  have hH18 : Hp _ w2 (Z15) := hz16.zin0 (L := [])
  refine out1 Tryz.results123 rfl ⟨Z15, (hH18.sub sR), ?_⟩
  rw [← named_all (k := k) ‹_› (by omega) hw, ← hm]; exact hv17
theorem c_spell_constant (K : Vu) (f : Fac) (s : BitVec 64) (hR : factorR f.fc = true) (hw : wordF f.fc s = true) (w : World) (hK : Le K (Kw w)) (hf : FacV K f) (hT : Tab w) : Calls Tryz.prog 94 #[.agg (facC f), U s] w (PureF K (fun K' u => ∃ n : NodeR, u = .agg (nodeL n).toArray ∧ n.nd = constF f.fc s ∧ NodeV K' n) w) := by
 have hm1 := hf.names.small
 unfold maxLen at hm1
 have hno := (named_spec (fac_named hR)).1
 refine enter Tryz.func94 rfl Tryz.ntmps94 rfl <| have hH := Hp.start w; SR <| RL.new rfl hH (f := fun b => (.pointer (some ⟨b, 0, none⟩))) (run_box (v := .agg _) rfl) <| fun b3 w1 hH2 => RL.new rfl hH2 (f := fun b => (.pointer (some ⟨b, 0, none⟩))) (run_alloc Tryz.zeroValue96) <| fun b6 w4 hH5 => RL.nil <| SR <| ?_
 refine V (run_mkF1 (by conv => lhs; whnf)) ?_
 refine va (v := .func _ _ _) rfl <| RL.nil <| SR <| V (run_ldFac underlying59 rfl rfl rfl (hH5.blk (i := 1) rfl)) <| RL.callP rfl hH5 (c_spell_kind _  _) (run_call1 call119 rfl) <| fun w7 hH8 => V (run_bld (vs := [(0, I (kindN f.fc))]) rfl (built_nodeK (kindN f.fc))) <| RL.new rfl hH8 (f := fun b => (.pointer (some ⟨b, 0, none⟩))) (run_alloc Tryz.zeroValue96) <| fun b11 w9 hH10 => RL.set hH10 (i := 0) rfl (run_stW (c' := (nodeL (kindR (kindN f.fc) tx0 (.slice none 0 0) [])).toArray) rfl rfl rfl (nodeL_one (kindR_v (SlV.nil (Kw w) _))) (hH10.blk (i := 0) rfl) rfl) <| fun w12 hH13 => ?_
 simp only [z2] at hH13
 have hH14 := hH13.nilRow 96 5
 refine RL.nil <| CW.seq <| SR <| V (fA underlying59 0 rfl sizeOf3 rfl) <| V (run_ld underlying3 rfl rfl (hH14.cell (i := 3) rfl (v := I _) rfl)) <| RL.nil <| CW.block <| SR <| V (run_eql rfl rfl) <| aB rfl <| RL.nil <| CW.condP rfl (fun h16 => ?_) (fun h16 => ?_)
 ·refine CW.region <| vm (v := .func _ _ _) rfl <| mU rfl <| RL.callF rfl hH14 (c_spell_constant_1 K b3 f s (sub_2 (f := f.fc) ‹f.kind = 2› hw) _ (hK.trans hH14.kw) (hf.mono (hK.trans hH14.kw)) (hH14.blk (i := 3) rfl) (hT.hp hH14)) (run_callC1 call116 (cs := [.pointer (some ⟨b3, 0, none⟩)]) rfl rfl) <| fun v19 w20 Z22 hH21 hp23 => have hH24 : Hp _ w20 (_ :: _ :: _ :: _ :: Z22) := hH21.zin0 (L := [_, _, _, _]); have hv25 := hp23; V (fA underlying96 3 rfl sizeOf93 rfl) <| RL.set hH24 (i := 1) rfl (run_st rfl rfl (v := v19) rfl (one_slv hv25).2 (one_slv hv25).1 (hH24.blk (i := 1) rfl) (by show 3 < 5; decide)) <| fun w26 hH27 => ?_
  simp only [z2] at hH27
  refine RL.nil <| SR <| have hN28 : NodeV (Kz K Z22) ((kindR (kindN f.fc) tx0 v19 (namesOf f.names s))) := kindR_v hv25; V (run_ldA (cs := nodeL ((kindR (kindN f.fc) tx0 v19 (namesOf f.names s)))) underlying96 rfl rfl rfl (rangeAt_cells (hH27.blk (i := 1) rfl))) <| RL.set hH27 (i := 2) rfl (run_stW (c' := (nodeL ((kindR (kindN f.fc) tx0 v19 (namesOf f.names s)))).toArray) rfl rfl rfl (nodeL_one hN28) (hH27.blk (i := 2) rfl) rfl) <| fun w29 hH30 => ?_
  simp only [z2] at hH30
  refine RL.nil <| CW.ret <| outCg Tryz.results94 rfl hH30 (i := 2) rfl underlying96 rfl rfl ⟨Z22, (hH30.sub (sQ (sQ (sQ (sQ sR))))), (kindR (kindN f.fc) tx0 v19 (namesOf f.names s)), rfl, ?_, hN28⟩
  exact nd_2 ‹_›
 ·refine SR <| V (run_eql rfl rfl) <| aB rfl <| RL.nil <| CW.condP rfl (fun h32 => ?_) (fun h32 => ?_)
  ·refine SR <| V (fA underlying59 2 rfl sizeOf57 rfl) <| V (run_ldBR underlying57 rfl rfl rfl (hH14.blk (i := 3) rfl)) <| mU rfl <| RL.callP rfl hH14 (c_grid_Owners _ _  _) (run_call2 call121 rfl rfl) <| fun w33 hH34 => RL.callR rfl hH34 (c_mask_List _  _ (hT.hp hH34)) (run_call1 call120 rfl) <| fun v37 w35 hH36 => V (run_lenSl (hH36.sl (i := 0) rfl) rfl underlying111 rfl) <| vm (v := I 0) rfl <| RL.nil <| CW.block <| CW.loop (G := Int × Value × (List NodeR) × (List Ent)) (fun ⟨k, kv, gs, Z⟩ s' w' => (Fr (8 :: (rg 47 23 [])) _ s') ∧ (Hp w w' (_ :: .row kv 96 5 (gs.length) (gs.flatMap nodeL) :: .blk b11 (.cells ((nodeL (kidsR (kindN f.fc) kv gs)).toArray) 96 (0, 0)) :: _ :: _ :: Z)) ∧ (s' 47 = I k) ∧ (0 ≤ k) ∧ (k ≤ (lst (ownersG f.rel s)).length) ∧ (gs.map NodeR.nd = rulesTo f.fc s k) ∧ (NodesV (Kz K Z) gs) ∧ ((gs.length : Int) = k)) (fun ⟨k, kv, gs, Z⟩ => ((lst (ownersG f.rel s)).length - k).toNat) ((0, (.slice none 0 0 : Value), [], [])) ⟨Fr.refl _ _, hH36, rfl, (by omega), (by omega), rfl, NodesV.nil _, rfl⟩ <| ?_
   rintro ⟨k, kv, gs, Z⟩ sg38 w38 ⟨fr38, hH38, e47_38, h0, hk, hm, hF, hb⟩
   have e1_38 := fr38.uu 1 rfl rfl
   have e2_38 := fr38.pp 2 rfl rfl
   have e4_38 := fr38.pp 4 rfl rfl
   have e5_38 := fr38.vv 5 (a := .func _ _ _) rfl rfl
   have e6_38 := fr38.pp 6 rfl rfl
   have e45_38 := (fr38 45 rfl).trans (by conv => lhs; whnf)
   have e46_38 := fr38.ii 46 rfl rfl
   have hl64 := lst_len (ownersG f.rel s)
   refine SR <| V (run_lss e47_38 e46_38) <| RL.nil <| CW.seq <| CW.condP rfl (fun h40 => ?_) (fun h40 => ?_)
   ·refine CW.skip <| CW.seq <| CW.block <| SR <| V (run_indexAddrS (hH38.sl (i := 0) rfl) underlying111 sizeOf3 e45_38 e47_38 (by omega)) <| V (run_ld underlying3 rfl rfl ((hH38.sl (i := 0) rfl).cell _ _ (map_at (by omega)))) <| aI rfl <| RL.nil <| CW.regionS (by kernel_rfl) hH38 (sP (sQ (sQ sR))) <| fun w41 hH42 => have zh42 := hH42.sub (sP (sQ (sQ sR))); AQ 0 rfl zh42 (fA underlying96 4 rfl sizeOf94 e6_38) <| AQ 2 rfl zh42 (fA underlying59 1 rfl sizeOf54 e2_38) <| AT 3 rfl zh42 (fun w hS => run_ld underlying54 rfl rfl (hS.cell (i := 2) rfl rfl)) <| AQ 4 rfl zh42 (mV (I _) rfl) <| AT 5 rfl zh42 (fun w hS => run_indexAddrS ((hf.mono hK).names.sl.hp hS) underlying54 sizeOf9 rfl rfl (by exact own_at (f := f.fc) hR ‹f.kind = 3› s h0 ‹k < _›)) <| AT 6 rfl zh42 (fun w hS => run_ld underlying9 rfl rfl (((hf.mono hK).names.sl.hp hS).cell _ _ (txL_at (by exact own_at (f := f.fc) hR ‹f.kind = 3› s h0 ‹k < _›)))) <| AQ 7 rfl zh42 (run_move e5_38) <| AQ 8 rfl zh42 (fA underlying59 2 rfl sizeOf57 e2_38) <| AT 9 rfl zh42 (fun w hS => run_ldBR underlying57 rfl rfl rfl (hS.blk (i := 2) rfl)) <| AQ 10 rfl zh42 (run_move e1_38) <| AQ 11 rfl zh42 (mV (I _) rfl) <| AN.two 1 12 (by kernel_rfl) ?_ ?_
    ·refine AO.read rfl gnone rfl hH42 (sP (sQ (sQ sR))) (run_ld underlying94 rfl rfl (hH42.cell (i := 2) rfl rfl)) <| A1 12 <| AO.callP rfl gnone rfl hH42 (sP (sQ (sQ sR))) (c_grid_Readers _ _ _  _) (run_call3 call122 rfl rfl rfl) <| fun w45 hH46 => A1 13 <| AO.callF rfl gnone rfl hH46 (sP (sQ (sQ sR))) (c_spell_constant_1 K b3 f (readersG f.rel s ((lst (ownersG f.rel s)).getD k.toNat 0)) (sub_r (f := f.fc) hR ‹f.kind = 3› _ _) _ (hK.trans hH46.kw) (hf.mono (hK.trans hH46.kw)) (hH46.blk (i := 4) rfl) (hT.hp hH46)) (run_callC1 call116 (cs := [.pointer (some ⟨b3, 0, none⟩)]) rfl rfl) <| fun v49 w50 Z52 hH51 hp53 => have hH54 : Hp _ w50 (_ :: _ :: _ :: _ :: _ :: (Z52 ++ Z)) := hH51.zin (L := [_, _, _, _, _]) (L' := Z); have hv55 := hp53; AQ 14 rfl (hH54.sub (sP (sQ (sQ (sP (sP (sA sR))))))) (run_bld (vs := [(0, I 6), (2, S (f.names.getD ((lst (ownersG f.rel s)).getD k.toNat 0).toNat tx0)), (3, v49)]) rfl (built_nodeTN (one_slv hv55).2 6 (f.names.getD ((lst (ownersG f.rel s)).getD k.toNat 0).toNat tx0) (namesOf f.names (readersG f.rel s ((lst (ownersG f.rel s)).getD k.toNat 0))))) <| A1 15 <| AO.new rfl gnone rfl hH54 (sP (sQ (sQ (sP (sP (sA sR)))))) (f := fun b => .slice (some ⟨b, 0, none⟩) 1 1) (run_mkRecs nodeL_len underlying94 rfl rfl rfl (l := [(kindR 6 (f.names.getD ((lst (ownersG f.rel s)).getD k.toNat 0).toNat tx0) v49 (namesOf f.names (readersG f.rel s ((lst (ownersG f.rel s)).getD k.toNat 0))))]) rfl (by decide) (by decide) rfl) <| fun b58 w56 hH57 => A1 16 <| AO.app rfl gnone rfl hH57 (j := 2) rfl (fun _ => (sQ (sP (sQ (sQ (sP (sP (sA sR)))))))) (Hp.slFlat nodeL_len hH57 (i := 0) (l := [(kindR 6 (f.names.getD ((lst (ownersG f.rel s)).getD k.toNat 0).toNat tx0) v49 (namesOf f.names (readersG f.rel s ((lst (ownersG f.rel s)).getD k.toNat 0))))]) rfl (by simp [maxLen])) rfl rfl underlying94 rfl rfl (size := 5) (bytes := 80) rfl rfl rfl (by decide) (node1_one (kindR_v hv55)) (by simp only [List.length_cons, List.length_nil]; omega) (by simp only [maxLen, List.length_cons, List.length_nil]; omega) <| fun v61 w59 hH60 => ?_
     simp only [z2] at hH60
     refine AQ 17 rfl (hH60.sub (sQ (sP (sQ (sQ (sP (sP (sA sR)))))))) (fA underlying96 4 rfl sizeOf94 e6_38) <| A1 18 <| AO.set rfl gnone hH60 (j := 3) rfl (sQ (sP (sQ (sQ (sP (sP (sA sR))))))) (run_st rfl rfl (v := v61) rfl (row_cells (hH60.get (i := 2) rfl)).1 (row_cells (hH60.get (i := 2) rfl)).2 (hH60.blk (i := 3) rfl) (by show 4 < 5; decide)) <| fun w64 hH65 => ?_
     simp only [z2] at hH65
     refine AD <| CW.region <| V (run_add e47_38 rfl (by omega)) <| mI rfl <| RL.nil <| ?_
     refine ⟨(k + 1, v61, (gs ++ [(kindR 6 (f.names.getD ((lst (ownersG f.rel s)).getD k.toNat 0).toNat tx0) v49 (namesOf f.names (readersG f.rel s ((lst (ownersG f.rel s)).getD k.toNat 0))))]), (Z52 ++ Z)), ?_, fr38.u4.u4.u4.u4.u4.u4, (Hp.conv (hH65.sub (sQ sR)) (by simp [nodeL, kidsR, kindR, NodeR.kind, NodeR.place, NodeR.text, NodeR.nv, NodeR.kv]; done)), (congrArg I (by rfl)), ?_, ?_, ?_, ?_, ?_⟩
     ·((try dsimp only); omega)
     ·omega
     ·omega
     ·rw [rules_next (f := f.fc) h0 ‹k < _›, List.map_append, hm]; exact congrArg (_ ++ [·]) (rule_nd (f := f.fc) (w := s) (o := ((lst (ownersG f.rel s)).getD k.toNat 0)))
     ·exact (hF.mono (Le.zz fun y hy => List.mem_append_right _ hy)).snoc (NodeV.mono (Le.zz fun y hy => List.mem_append_left _ hy) (kindR_v hv55))
     ·simp only [List.length_append, List.length_singleton]; omega
    ·refine AO.callP rfl gnone rfl hH42 (sP (sQ (sQ sR))) (c_grid_Readers _ _ _  _) (run_call3 call122 rfl rfl rfl) <| fun w66 hH67 => AN.two 1 13 (by kernel_rfl) ?_ ?_
     ·refine AO.read rfl gnone rfl hH67 (sP (sQ (sQ sR))) (run_ld underlying94 rfl rfl (hH67.cell (i := 2) rfl rfl)) <| A1 13 <| AO.callF rfl gnone rfl hH67 (sP (sQ (sQ sR))) (c_spell_constant_1 K b3 f (readersG f.rel s ((lst (ownersG f.rel s)).getD k.toNat 0)) (sub_r (f := f.fc) hR ‹f.kind = 3› _ _) _ (hK.trans hH67.kw) (hf.mono (hK.trans hH67.kw)) (hH67.blk (i := 4) rfl) (hT.hp hH67)) (run_callC1 call116 (cs := [.pointer (some ⟨b3, 0, none⟩)]) rfl rfl) <| fun v72 w73 Z75 hH74 hp76 => have hH77 : Hp _ w73 (_ :: _ :: _ :: _ :: _ :: (Z75 ++ Z)) := hH74.zin (L := [_, _, _, _, _]) (L' := Z); have hv78 := hp76; AQ 14 rfl (hH77.sub (sP (sQ (sQ (sP (sP (sA sR))))))) (run_bld (vs := [(0, I 6), (2, S (f.names.getD ((lst (ownersG f.rel s)).getD k.toNat 0).toNat tx0)), (3, v72)]) rfl (built_nodeTN (one_slv hv78).2 6 (f.names.getD ((lst (ownersG f.rel s)).getD k.toNat 0).toNat tx0) (namesOf f.names (readersG f.rel s ((lst (ownersG f.rel s)).getD k.toNat 0))))) <| A1 15 <| AO.new rfl gnone rfl hH77 (sP (sQ (sQ (sP (sP (sA sR)))))) (f := fun b => .slice (some ⟨b, 0, none⟩) 1 1) (run_mkRecs nodeL_len underlying94 rfl rfl rfl (l := [(kindR 6 (f.names.getD ((lst (ownersG f.rel s)).getD k.toNat 0).toNat tx0) v72 (namesOf f.names (readersG f.rel s ((lst (ownersG f.rel s)).getD k.toNat 0))))]) rfl (by decide) (by decide) rfl) <| fun b81 w79 hH80 => A1 16 <| AO.app rfl gnone rfl hH80 (j := 2) rfl (fun _ => (sQ (sP (sQ (sQ (sP (sP (sA sR)))))))) (Hp.slFlat nodeL_len hH80 (i := 0) (l := [(kindR 6 (f.names.getD ((lst (ownersG f.rel s)).getD k.toNat 0).toNat tx0) v72 (namesOf f.names (readersG f.rel s ((lst (ownersG f.rel s)).getD k.toNat 0))))]) rfl (by simp [maxLen])) rfl rfl underlying94 rfl rfl (size := 5) (bytes := 80) rfl rfl rfl (by decide) (node1_one (kindR_v hv78)) (by simp only [List.length_cons, List.length_nil]; omega) (by simp only [maxLen, List.length_cons, List.length_nil]; omega) <| fun v84 w82 hH83 => ?_
      simp only [z2] at hH83
      refine AQ 17 rfl (hH83.sub (sQ (sP (sQ (sQ (sP (sP (sA sR)))))))) (fA underlying96 4 rfl sizeOf94 e6_38) <| A1 18 <| AO.set rfl gnone hH83 (j := 3) rfl (sQ (sP (sQ (sQ (sP (sP (sA sR))))))) (run_st rfl rfl (v := v84) rfl (row_cells (hH83.get (i := 2) rfl)).1 (row_cells (hH83.get (i := 2) rfl)).2 (hH83.blk (i := 3) rfl) (by show 4 < 5; decide)) <| fun w87 hH88 => ?_
      simp only [z2] at hH88
      refine AD <| CW.region <| V (run_add e47_38 rfl (by omega)) <| mI rfl <| RL.nil <| ?_
      refine ⟨(k + 1, v84, (gs ++ [(kindR 6 (f.names.getD ((lst (ownersG f.rel s)).getD k.toNat 0).toNat tx0) v72 (namesOf f.names (readersG f.rel s ((lst (ownersG f.rel s)).getD k.toNat 0))))]), (Z75 ++ Z)), ?_, fr38.u4.u4.u4.u4.u4.u4, (Hp.conv (hH88.sub (sQ sR)) (by simp [nodeL, kidsR, kindR, NodeR.kind, NodeR.place, NodeR.text, NodeR.nv, NodeR.kv]; done)), (congrArg I (by rfl)), ?_, ?_, ?_, ?_, ?_⟩
      ·((try dsimp only); omega)
      ·omega
      ·omega
      ·rw [rules_next (f := f.fc) h0 ‹k < _›, List.map_append, hm]; exact congrArg (_ ++ [·]) (rule_nd (f := f.fc) (w := s) (o := ((lst (ownersG f.rel s)).getD k.toNat 0)))
      ·exact (hF.mono (Le.zz fun y hy => List.mem_append_right _ hy)).snoc (NodeV.mono (Le.zz fun y hy => List.mem_append_left _ hy) (kindR_v hv78))
      ·simp only [List.length_append, List.length_singleton]; omega
     ·refine AO.callF rfl gnone rfl hH67 (sP (sQ (sQ sR))) (c_spell_constant_1 K b3 f (readersG f.rel s ((lst (ownersG f.rel s)).getD k.toNat 0)) (sub_r (f := f.fc) hR ‹f.kind = 3› _ _) _ (hK.trans hH67.kw) (hf.mono (hK.trans hH67.kw)) (hH67.blk (i := 4) rfl) (hT.hp hH67)) (run_callC1 call116 (cs := [.pointer (some ⟨b3, 0, none⟩)]) rfl rfl) <| fun v91 w92 Z94 hH93 hp95 => have hH96 : Hp _ w92 (_ :: _ :: _ :: _ :: _ :: (Z94 ++ Z)) := hH93.zin (L := [_, _, _, _, _]) (L' := Z); have hv97 := hp95; AQ 14 rfl (hH96.sub (sP (sQ (sQ (sP (sP (sA sR))))))) (run_bld (vs := [(0, I 6), (2, S (f.names.getD ((lst (ownersG f.rel s)).getD k.toNat 0).toNat tx0)), (3, v91)]) rfl (built_nodeTN (one_slv hv97).2 6 (f.names.getD ((lst (ownersG f.rel s)).getD k.toNat 0).toNat tx0) (namesOf f.names (readersG f.rel s ((lst (ownersG f.rel s)).getD k.toNat 0))))) <| AN.two 1 15 (by kernel_rfl) ?_ ?_
      ·refine AO.read rfl gnone rfl hH96 (sP (sQ (sQ (sP (sP (sA sR)))))) (run_ld underlying94 rfl rfl (hH96.cell (i := 2) rfl rfl)) <| A1 15 <| AO.new rfl gnone rfl hH96 (sP (sQ (sQ (sP (sP (sA sR)))))) (f := fun b => .slice (some ⟨b, 0, none⟩) 1 1) (run_mkRecs nodeL_len underlying94 rfl rfl rfl (l := [(kindR 6 (f.names.getD ((lst (ownersG f.rel s)).getD k.toNat 0).toNat tx0) v91 (namesOf f.names (readersG f.rel s ((lst (ownersG f.rel s)).getD k.toNat 0))))]) rfl (by decide) (by decide) rfl) <| fun b102 w100 hH101 => A1 16 <| AO.app rfl gnone rfl hH101 (j := 2) rfl (fun _ => (sQ (sP (sQ (sQ (sP (sP (sA sR)))))))) (Hp.slFlat nodeL_len hH101 (i := 0) (l := [(kindR 6 (f.names.getD ((lst (ownersG f.rel s)).getD k.toNat 0).toNat tx0) v91 (namesOf f.names (readersG f.rel s ((lst (ownersG f.rel s)).getD k.toNat 0))))]) rfl (by simp [maxLen])) rfl rfl underlying94 rfl rfl (size := 5) (bytes := 80) rfl rfl rfl (by decide) (node1_one (kindR_v hv97)) (by simp only [List.length_cons, List.length_nil]; omega) (by simp only [maxLen, List.length_cons, List.length_nil]; omega) <| fun v105 w103 hH104 => ?_
       simp only [z2] at hH104
       refine AQ 17 rfl (hH104.sub (sQ (sP (sQ (sQ (sP (sP (sA sR)))))))) (fA underlying96 4 rfl sizeOf94 e6_38) <| A1 18 <| AO.set rfl gnone hH104 (j := 3) rfl (sQ (sP (sQ (sQ (sP (sP (sA sR))))))) (run_st rfl rfl (v := v105) rfl (row_cells (hH104.get (i := 2) rfl)).1 (row_cells (hH104.get (i := 2) rfl)).2 (hH104.blk (i := 3) rfl) (by show 4 < 5; decide)) <| fun w108 hH109 => ?_
       simp only [z2] at hH109
       refine AD <| CW.region <| V (run_add e47_38 rfl (by omega)) <| mI rfl <| RL.nil <| ?_
       refine ⟨(k + 1, v105, (gs ++ [(kindR 6 (f.names.getD ((lst (ownersG f.rel s)).getD k.toNat 0).toNat tx0) v91 (namesOf f.names (readersG f.rel s ((lst (ownersG f.rel s)).getD k.toNat 0))))]), (Z94 ++ Z)), ?_, fr38.u4.u4.u4.u4.u4.u4, (Hp.conv (hH109.sub (sQ sR)) (by simp [nodeL, kidsR, kindR, NodeR.kind, NodeR.place, NodeR.text, NodeR.nv, NodeR.kv]; done)), (congrArg I (by rfl)), ?_, ?_, ?_, ?_, ?_⟩
       ·((try dsimp only); omega)
       ·omega
       ·omega
       ·rw [rules_next (f := f.fc) h0 ‹k < _›, List.map_append, hm]; exact congrArg (_ ++ [·]) (rule_nd (f := f.fc) (w := s) (o := ((lst (ownersG f.rel s)).getD k.toNat 0)))
       ·exact (hF.mono (Le.zz fun y hy => List.mem_append_right _ hy)).snoc (NodeV.mono (Le.zz fun y hy => List.mem_append_left _ hy) (kindR_v hv97))
       ·simp only [List.length_append, List.length_singleton]; omega
      ·refine AO.new rfl gnone rfl hH96 (sP (sQ (sQ (sP (sP (sA sR)))))) (f := fun b => .slice (some ⟨b, 0, none⟩) 1 1) (run_mkRecs nodeL_len underlying94 rfl rfl rfl (l := [(kindR 6 (f.names.getD ((lst (ownersG f.rel s)).getD k.toNat 0).toNat tx0) v91 (namesOf f.names (readersG f.rel s ((lst (ownersG f.rel s)).getD k.toNat 0))))]) rfl (by decide) (by decide) rfl) <| fun b112 w110 hH111 => A1 1 <| AO.read rfl gnone rfl hH111 (sQ (sP (sQ (sQ (sP (sP (sA sR))))))) (run_ld underlying94 rfl rfl (hH111.cell (i := 3) rfl rfl)) <| A1 16 <| AO.app rfl gnone rfl hH111 (j := 2) rfl (fun _ => (sQ (sP (sQ (sQ (sP (sP (sA sR)))))))) (Hp.slFlat nodeL_len hH111 (i := 0) (l := [(kindR 6 (f.names.getD ((lst (ownersG f.rel s)).getD k.toNat 0).toNat tx0) v91 (namesOf f.names (readersG f.rel s ((lst (ownersG f.rel s)).getD k.toNat 0))))]) rfl (by simp [maxLen])) rfl rfl underlying94 rfl rfl (size := 5) (bytes := 80) rfl rfl rfl (by decide) (node1_one (kindR_v hv97)) (by simp only [List.length_cons, List.length_nil]; omega) (by simp only [maxLen, List.length_cons, List.length_nil]; omega) <| fun v117 w115 hH116 => ?_
       simp only [z2] at hH116
       refine AQ 17 rfl (hH116.sub (sQ (sP (sQ (sQ (sP (sP (sA sR)))))))) (fA underlying96 4 rfl sizeOf94 e6_38) <| A1 18 <| AO.set rfl gnone hH116 (j := 3) rfl (sQ (sP (sQ (sQ (sP (sP (sA sR))))))) (run_st rfl rfl (v := v117) rfl (row_cells (hH116.get (i := 2) rfl)).1 (row_cells (hH116.get (i := 2) rfl)).2 (hH116.blk (i := 3) rfl) (by show 4 < 5; decide)) <| fun w120 hH121 => ?_
       simp only [z2] at hH121
       refine AD <| CW.region <| V (run_add e47_38 rfl (by omega)) <| mI rfl <| RL.nil <| ?_
       refine ⟨(k + 1, v117, (gs ++ [(kindR 6 (f.names.getD ((lst (ownersG f.rel s)).getD k.toNat 0).toNat tx0) v91 (namesOf f.names (readersG f.rel s ((lst (ownersG f.rel s)).getD k.toNat 0))))]), (Z94 ++ Z)), ?_, fr38.u4.u4.u4.u4.u4.u4, (Hp.conv (hH121.sub (sQ sR)) (by simp [nodeL, kidsR, kindR, NodeR.kind, NodeR.place, NodeR.text, NodeR.nv, NodeR.kv]; done)), (congrArg I (by rfl)), ?_, ?_, ?_, ?_, ?_⟩
       ·((try dsimp only); omega)
       ·omega
       ·omega
       ·rw [rules_next (f := f.fc) h0 ‹k < _›, List.map_append, hm]; exact congrArg (_ ++ [·]) (rule_nd (f := f.fc) (w := s) (o := ((lst (ownersG f.rel s)).getD k.toNat 0)))
       ·exact (hF.mono (Le.zz fun y hy => List.mem_append_right _ hy)).snoc (NodeV.mono (Le.zz fun y hy => List.mem_append_left _ hy) (kindR_v hv97))
       ·simp only [List.length_append, List.length_singleton]; omega
   ·refine CW.exit (id := 1) rfl <| SR <| ?_
    obtain ⟨Z122, hz123, hv124, -⟩ := (hH38.perm (((pC pR).trans pS).trans (pC pR))).frz (K)
    have hH125 : Hp _ w38 (_ :: _ :: _ :: _ :: (Z122 ++ Z)) := hz123.zin (L := [_, _, _, _]) (L' := Z)
    have hN126 : NodeV (Kz K (Z122 ++ Z)) ((kidsR (kindN f.fc) kv gs)) := kidsR_v (hv124.mono (Le.zz fun x hx => List.mem_append_left _ hx)) (hF.mono (Le.zz fun x hx => List.mem_append_right _ hx))
    refine V (run_ldA (cs := nodeL ((kidsR (kindN f.fc) kv gs))) underlying96 rfl rfl e6_38 (rangeAt_cells (hH125.blk (i := 1) rfl))) <| RL.set hH125 (i := 2) rfl (run_stW (c' := (nodeL ((kidsR (kindN f.fc) kv gs))).toArray) rfl e4_38 rfl (nodeL_one hN126) (hH125.blk (i := 2) rfl) rfl) <| fun w127 hH128 => ?_
    simp only [z2] at hH128
    refine RL.nil <| CW.ret <| outCg Tryz.results94 e4_38 hH128 (i := 2) rfl underlying96 rfl rfl ⟨(Z122 ++ Z), (hH128.sub (sQ (sQ (sQ (sQ sR))))), (kidsR (kindN f.fc) kv gs), rfl, ?_, hN126⟩
    exact nd_3 ‹_› (hm.trans (rules_all ‹_›))
  ·refine SR <| V (run_eql rfl rfl) <| aB rfl <| RL.nil <| CW.condP rfl (fun h130 => ?_) (fun h130 => ?_)
   ·refine SR <| V (fA underlying59 2 rfl sizeOf57 rfl) <| V (run_ldBR underlying57 rfl rfl rfl (hH14.blk (i := 3) rfl)) <| mU rfl <| RL.callP rfl hH14 (c_hasse_Point _ _  _ (hT.hp hH14)) (run_call2 call78 rfl rfl) <| fun w131 hH132 => ?_
    refine V (run_move (by conv => lhs; whnf)) ?_
    refine V (run_extract rfl (v := I _) rfl) <| V (run_extract rfl (v := B _) rfl) <| aI rfl <| aB rfl <| RL.nil <| CW.region <| V (fA underlying59 1 rfl sizeOf54 rfl) <| V (run_ld underlying54 rfl rfl (hH132.cell (i := 3) rfl rfl)) <| mI rfl <| V (run_indexAddrS ((hf.mono hK).names.sl.hp hH132) underlying54 sizeOf9 rfl rfl (by exact pt_in (f := f.fc) hR ‹f.kind = 4› hw)) <| V (run_ld underlying9 rfl rfl (((hf.mono hK).names.sl.hp hH132).cell _ _ (txL_at (by exact pt_in (f := f.fc) hR ‹f.kind = 4› hw)))) <| V (fA underlying96 2 rfl sizeOf9 rfl) <| RL.set hH132 (i := 1) rfl (run_st rfl rfl (v := .string _) rfl rfl rfl (hH132.blk (i := 1) rfl) (by show 2 < 5; decide)) <| fun w134 hH135 => ?_
    simp only [z2] at hH135
    refine RL.nil <| SR <| have hN136 : NodeV (Kz K []) ((kindR (kindN f.fc) (f.names.getD (pointV f.rel s).1.toNat tx0) (.slice none 0 0) [])) := kindR_v (SlV.nil _ _); V (run_ldA (cs := nodeL ((kindR (kindN f.fc) (f.names.getD (pointV f.rel s).1.toNat tx0) (.slice none 0 0) []))) underlying96 rfl rfl rfl (rangeAt_cells (hH135.blk (i := 1) rfl))) <| RL.set hH135 (i := 2) rfl (run_stW (c' := (nodeL ((kindR (kindN f.fc) (f.names.getD (pointV f.rel s).1.toNat tx0) (.slice none 0 0) []))).toArray) rfl rfl rfl (nodeL_one hN136) (hH135.blk (i := 2) rfl) rfl) <| fun w137 hH138 => ?_
    simp only [z2] at hH138
    refine RL.nil <| CW.ret <| outCg Tryz.results94 rfl hH138 (i := 2) rfl underlying96 rfl rfl ⟨[], (hH138.sub (sQ (sQ (sQ (sQ sR))))), (kindR (kindN f.fc) (f.names.getD (pointV f.rel s).1.toNat tx0) (.slice none 0 0) []), rfl, ?_, hN136⟩
    exact nd_4 ‹_›
   ·refine SR <| V (fA underlying59 1 rfl sizeOf54 rfl) <| V (run_ld underlying54 rfl rfl (hH14.cell (i := 3) rfl rfl)) <| V (run_lenSl ((hf.mono hK).names.sl.hp hH14) rfl underlying54 rfl) <| mU rfl <| RL.callP rfl hH14 (c_rung_Level _ _  _) (run_call2 call104 rfl rfl) <| fun w139 hH140 => ?_
    refine V (run_move (by conv => lhs; whnf)) ?_
    refine V (run_extract rfl (v := I _) rfl) <| V (run_extract rfl (v := B _) rfl) <| aI rfl <| aB rfl <| RL.nil <| CW.region <| V (fA underlying59 1 rfl sizeOf54 rfl) <| V (run_ld underlying54 rfl rfl (hH140.cell (i := 3) rfl rfl)) <| mI rfl <| V (run_indexAddrS ((hf.mono hK).names.sl.hp hH140) underlying54 sizeOf9 rfl rfl (by exact lv_in (f := f.fc) (kind_cases hR ‹_› ‹_› ‹_›) hw)) <| V (run_ld underlying9 rfl rfl (((hf.mono hK).names.sl.hp hH140).cell _ _ (txL_at (by exact lv_in (f := f.fc) (kind_cases hR ‹_› ‹_› ‹_›) hw)))) <| V (fA underlying96 2 rfl sizeOf9 rfl) <| RL.set hH140 (i := 1) rfl (run_st rfl rfl (v := .string _) rfl rfl rfl (hH140.blk (i := 1) rfl) (by show 2 < 5; decide)) <| fun w142 hH143 => ?_
    simp only [z2] at hH143
    refine RL.nil <| SR <| have hN144 : NodeV (Kz K []) ((kindR (kindN f.fc) (f.names.getD (level f.names.length s).1.toNat tx0) (.slice none 0 0) [])) := kindR_v (SlV.nil _ _); V (run_ldA (cs := nodeL ((kindR (kindN f.fc) (f.names.getD (level f.names.length s).1.toNat tx0) (.slice none 0 0) []))) underlying96 rfl rfl rfl (rangeAt_cells (hH143.blk (i := 1) rfl))) <| RL.set hH143 (i := 2) rfl (run_stW (c' := (nodeL ((kindR (kindN f.fc) (f.names.getD (level f.names.length s).1.toNat tx0) (.slice none 0 0) []))).toArray) rfl rfl rfl (nodeL_one hN144) (hH143.blk (i := 2) rfl) rfl) <| fun w145 hH146 => ?_
    simp only [z2] at hH146
    refine RL.nil <| CW.ret <| outCg Tryz.results94 rfl hH146 (i := 2) rfl underlying96 rfl rfl ⟨[], (hH146.sub (sQ (sQ (sQ (sQ sR))))), (kindR (kindN f.fc) (f.names.getD (level f.names.length s).1.toNat tx0) (.slice none 0 0) []), rfl, ?_, hN144⟩
    exact nd_1 ‹_› ‹_› ‹_›
theorem c_spell_Node (K : Vu) (s : Shp) (e : El) (w : World) (hK : Le K (Kw w)) (hs : ShpV K s) (hT : Tab w) : Calls Tryz.prog 65 #[.agg (shpC s), .agg (elC e)] w (PureF K (fun K' u => ∃ n : NodeR, u = .agg (nodeL n).toArray ∧ n.nd = nodeF s.sh e ∧ NodeV K' n) w) := by
 have hsl := sh_len s
 have hm := hs.facs.small
 unfold maxLen at hm
 refine enter Tryz.func65 rfl Tryz.ntmps65 rfl <| have hH := Hp.start w; SR <| RL.new rfl hH (f := fun b => (.pointer (some ⟨b, 0, none⟩))) (run_box (v := .agg _) rfl) <| fun b3 w1 hH2 => RL.new rfl hH2 (f := fun b => (.pointer (some ⟨b, 0, none⟩))) (run_box (v := .agg _) rfl) <| fun b6 w4 hH5 => RL.new rfl hH5 (f := fun b => (.pointer (some ⟨b, 0, none⟩))) (run_alloc Tryz.zeroValue96) <| fun b9 w7 hH8 => RL.nil <| CW.seq <| SR <| V (run_ldA (cs := [B _, _]) underlying42 rfl rfl rfl (rangeAt_cells (hH8.blk (i := 2) rfl))) <| V (run_ldEl underlying51 rfl rfl rfl (hH8.blk (i := 1) rfl)) <| RL.callP rfl hH8 (c_shape_Fits _ _  _ ((hs.mono hK).mono hH8.kw) (hT.hp hH8)) (run_call2 call24 rfl rfl) <| fun w10 hH11 => V (run_not rfl) <| RL.nil <| CW.cond rfl (fun h14 => ?_) (fun h14 => ?_)
 ·refine SR <| V (run_bld (vs := []) rfl built_node0) <| RL.set hH11 (i := 0) rfl (run_stW (c' := (nodeL node0).toArray) rfl rfl rfl (nodeL_one (node0_v (K := Kw w))) (hH11.blk (i := 0) rfl) rfl) <| fun w15 hH16 => ?_
  simp only [z2] at hH16
  refine RL.nil <| CW.ret <| outCg Tryz.results65 rfl hH16 (i := 0) rfl underlying96 rfl rfl ⟨[], (hH16.sub (sQ (sQ (sQ sR)))), node0, rfl, ?_, node0_v⟩
  rw [nodeF_no (nt ‹(!fitsS s.sh e) = true›)]; exact node0_nd
 ·refine CW.skip <| CW.seq <| SR <| V (fA underlying42 0 rfl sizeOf4 rfl) <| V (run_ld underlying4 rfl rfl (hH11.cell (i := 2) rfl (v := B _) rfl)) <| V (run_not rfl) <| RL.nil <| CW.cond rfl (fun h19 => ?_) (fun h19 => ?_)
  ·refine CW.seq <| have hfit := nf ‹(!fitsS s.sh e) = false›; have hfl := fit_len hfit; CW.regionS (by kernel_rfl) hH11 (sQ sR) <| fun w20 hH21 => have zh21 := hH21.sub (sQ sR); AQ 0 rfl zh21 (fA underlying42 1 rfl sizeOf40 rfl) <| AT 1 rfl zh21 (fun w hS => run_ld underlying40 rfl rfl (hS.cell (i := 1) rfl rfl)) <| AT 2 rfl zh21 (fun w hS => run_indexAddrS ((hs.mono hK).facs.sl.hp hS) underlying40 sizeOf59 rfl rfl (by omega)) <| AT 3 rfl zh21 (fun w hS => run_ldE (dv := fac0) facL_len ((hs.mono hK).facs.sl.hp hS) underlying59 rfl rfl rfl (by omega)) <| AQ 4 rfl zh21 (run_indexAddrA underlying51 sizeOf49 rfl rfl (by omega)) <| AT 5 rfl zh21 (fun w hS => run_ld underlying49 rfl rfl (hS.cell (i := 0) rfl (elC_at _ (by omega)))) <| A1 6 <| AO.callF rfl gnone rfl hH21 (sQ sR) (c_spell_constant K (s.facs.getD (0 : Int).toNat fac0) (e (0 : Int).toNat) (fitR hfit (k := 0) (by omega) (by omega)).1 (fitR hfit (k := 0) (by omega) (by omega)).2 _ (hK.trans hH21.kw) (hs.at (k := 0) (by omega) (by omega)) (hT.hp hH21)) (run_call2 call94 rfl rfl) <| fun v24 w25 Z27 hH26 hp28 => have hH29 : Hp _ w25 (_ :: _ :: _ :: Z27) := hH26.zin0 (L := [_, _, _]); ?_
   obtain ⟨n30, rfl, nd31, nv32⟩ := hp28
   refine A1 7 <| AO.set rfl gnone hH29 (j := 0) rfl (sQ (sP (sP (List.nil_sublist _)))) (run_stW (c' := (nodeL n30).toArray) rfl rfl rfl (nodeL_one nv32) (hH29.blk (i := 0) rfl) rfl) <| fun w35 hH36 => ?_
   simp only [z2] at hH36
   refine AD <| CW.ret <| outCg Tryz.results65 rfl hH36 (i := 0) rfl underlying96 rfl rfl ⟨Z27, (hH36.sub (sQ (sQ (sQ sR)))), n30, rfl, ?_, nv32⟩
   rw [nodeF_1 (nf ‹(!fitsS s.sh e) = false›) (nt ‹(!s.tuple) = true›)]; exact nd31
  ·refine CW.skip <| SR <| V (run_bld (vs := [(0, I 4)]) rfl (built_nodeK 4)) <| RL.new rfl hH11 (f := fun b => (.pointer (some ⟨b, 0, none⟩))) (run_alloc Tryz.zeroValue96) <| fun b39 w37 hH38 => RL.set hH38 (i := 0) rfl (run_stW (c' := (nodeL (kindR 4 tx0 (.slice none 0 0) [])).toArray) rfl rfl rfl (nodeL_one (kindR_v (SlV.nil (Kw w) _))) (hH38.blk (i := 0) rfl) rfl) <| fun w40 hH41 => ?_
   simp only [z2] at hH41
   have hH42 := hH41.nilRow 96 5
   refine RL.nil <| CW.seq <| SR <| V (fA underlying42 1 rfl sizeOf40 rfl) <| V (run_ld underlying40 rfl rfl (hH42.cell (i := 4) rfl rfl)) <| V (run_lenSl ((hs.mono hK).facs.sl.hp hH42) rfl underlying40 rfl) <| vm (v := I 0) rfl <| RL.nil <| CW.block <| have hfit := nf ‹(!fitsS s.sh e) = false›; have hfl := fit_len hfit; CW.loop (G := Int × Value × (List NodeR) × (List Ent)) (fun ⟨k, kv, gs, Z⟩ s' w' => (Fr (6 :: 7 :: (rg 27 16 [])) _ s') ∧ (Hp w w' (.row kv 96 5 (gs.length) (gs.flatMap nodeL) :: .blk b39 (.cells ((nodeL (kidsR 4 kv gs)).toArray) 96 (0, 0)) :: _ :: _ :: _ :: Z)) ∧ (s' 27 = I k) ∧ (0 ≤ k) ∧ (k ≤ s.facs.length) ∧ (gs.map NodeR.nd = constsTo s.sh e k) ∧ (NodesV (Kz K Z) gs) ∧ ((gs.length : Int) = k)) (fun ⟨k, kv, gs, Z⟩ => (s.facs.length - k).toNat) ((0, (.slice none 0 0 : Value), [], [])) ⟨Fr.refl _ _, hH42, rfl, (by omega), (by omega), rfl, NodesV.nil _, rfl⟩ <| ?_
   rintro ⟨k, kv, gs, Z⟩ sg43 w43 ⟨fr43, hH43, e27_43, h0, hk, hm, hF, hb⟩
   have e3_43 := fr43.pp 3 rfl rfl
   have e4_43 := fr43.pp 4 rfl rfl
   have e5_43 := fr43.pp 5 rfl rfl
   have e25_43 := (fr43 25 rfl).trans (by conv => lhs; whnf)
   have e26_43 := fr43.ii 26 rfl rfl
   refine SR <| V (run_lss e27_43 e26_43) <| RL.nil <| CW.seq <| CW.condP rfl (fun h45 => ?_) (fun h45 => ?_)
   ·refine CW.skip <| CW.seq <| CW.block <| SR <| vm e27_43 <| V (run_indexAddrS ((hs.mono hK).facs.sl.hp hH43) underlying40 sizeOf59 e25_43 e27_43 (by omega)) <| V (run_ldE (dv := fac0) facL_len ((hs.mono hK).facs.sl.hp hH43) underlying59 rfl rfl rfl (by omega)) <| RL.new rfl hH43 (f := fun b => (.pointer (some ⟨b, 0, none⟩))) (run_alloc zero_fac) <| fun b48 w46 hH47 => aI rfl <| RL.set hH47 (i := 0) rfl (run_stFac ((hs.mono hK).at (by omega) (by omega)) rfl rfl rfl (hH47.blk (i := 0) rfl)) <| fun w49 hH50 => ?_
    simp only [z2] at hH50
    refine RL.nil <| CW.regionS (by kernel_rfl) hH50 (sP (sQ (sQ sR))) <| fun w51 hH52 => have zh52 := hH52.sub (sP (sQ (sQ sR))); AQ 0 rfl zh52 (fA underlying96 4 rfl sizeOf94 e5_43) <| AT 2 rfl zh52 (fun w hS => run_ldFac underlying59 rfl rfl rfl (hS.blk (i := 0) rfl)) <| AQ 3 rfl zh52 (mV (I _) rfl) <| AQ 4 rfl zh52 (run_indexAddrA underlying51 sizeOf49 e3_43 rfl (by omega)) <| AT 5 rfl zh52 (fun w hS => run_ld underlying49 rfl rfl (hS.cell (i := 2) rfl (elC_at _ (by omega)))) <| AN.two 1 6 (by kernel_rfl) ?_ ?_
    ·refine AO.read rfl gnone rfl hH52 (sP (sQ (sQ sR))) (run_ld underlying94 rfl rfl (hH52.cell (i := 2) rfl rfl)) <| A1 6 <| AO.callF rfl gnone rfl hH52 (sP (sQ (sQ sR))) (c_spell_constant K (s.facs.getD k.toNat fac0) (e k.toNat) (fitR hfit h0 (by omega)).1 (fitR hfit h0 (by omega)).2 _ (hK.trans hH52.kw) (hs.at h0 (by omega)) (hT.hp hH52)) (run_call2 call94 rfl rfl) <| fun v57 w58 Z60 hH59 hp61 => have hH62 : Hp _ w58 (_ :: _ :: _ :: _ :: _ :: _ :: (Z60 ++ Z)) := hH59.zin (L := [_, _, _, _, _, _]) (L' := Z); ?_
     obtain ⟨n63, rfl, nd64, nv65⟩ := hp61
     refine A1 7 <| AO.new rfl gnone rfl hH62 (sP (sQ (sQ (sP (sP (sP (sA sR))))))) (f := fun b => .slice (some ⟨b, 0, none⟩) 1 1) (run_mkRecs nodeL_len underlying94 rfl rfl rfl (l := [n63]) rfl (by decide) (by decide) rfl) <| fun b68 w66 hH67 => A1 8 <| AO.app rfl gnone rfl hH67 (j := 2) rfl (fun _ => (sQ (sP (sQ (sQ (sP (sP (sP (sA sR))))))))) (Hp.slFlat nodeL_len hH67 (i := 0) (l := [n63]) rfl (by simp [maxLen])) rfl rfl underlying94 rfl rfl (size := 5) (bytes := 80) rfl rfl rfl (by decide) (node1_one nv65) (by simp only [List.length_cons, List.length_nil]; omega) (by simp only [maxLen, List.length_cons, List.length_nil]; omega) <| fun v71 w69 hH70 => ?_
     simp only [z2] at hH70
     refine AQ 9 rfl (hH70.sub (sQ (sP (sQ (sQ (sP (sP (sP (sA sR))))))))) (fA underlying96 4 rfl sizeOf94 e5_43) <| A1 10 <| AO.set rfl gnone hH70 (j := 3) rfl (sQ (sP (sQ (sQ (sP (sP (sP (sA sR)))))))) (run_st rfl rfl (v := v71) rfl (row_cells (hH70.get (i := 2) rfl)).1 (row_cells (hH70.get (i := 2) rfl)).2 (hH70.blk (i := 3) rfl) (by show 4 < 5; decide)) <| fun w74 hH75 => ?_
     simp only [z2] at hH75
     refine AD <| CW.region <| V (run_add e27_43 rfl (by omega)) <| mI rfl <| RL.nil <| ?_
     refine ⟨(k + 1, v71, (gs ++ [n63]), (Z60 ++ Z)), ?_, fr43.u4.u4.u4.u4.u1.u1, (Hp.conv (hH75.sub (sQ (sQ sR))) (by simp [nodeL, kidsR, kindR, NodeR.kind, NodeR.place, NodeR.text, NodeR.nv, NodeR.kv]; done)), (congrArg I (by rfl)), ?_, ?_, ?_, ?_, ?_⟩
     ·((try dsimp only); omega)
     ·omega
     ·omega
     ·rw [consts_nextR h0, List.map_append, hm]; exact congrArg (_ ++ [·]) nd64
     ·exact (hF.mono (Le.zz fun y hy => List.mem_append_right _ hy)).snoc (NodeV.mono (Le.zz fun y hy => List.mem_append_left _ hy) nv65)
     ·simp only [List.length_append, List.length_singleton]; omega
    ·refine AO.callF rfl gnone rfl hH52 (sP (sQ (sQ sR))) (c_spell_constant K (s.facs.getD k.toNat fac0) (e k.toNat) (fitR hfit h0 (by omega)).1 (fitR hfit h0 (by omega)).2 _ (hK.trans hH52.kw) (hs.at h0 (by omega)) (hT.hp hH52)) (run_call2 call94 rfl rfl) <| fun v78 w79 Z81 hH80 hp82 => have hH83 : Hp _ w79 (_ :: _ :: _ :: _ :: _ :: _ :: (Z81 ++ Z)) := hH80.zin (L := [_, _, _, _, _, _]) (L' := Z); ?_
     obtain ⟨n84, rfl, nd85, nv86⟩ := hp82
     refine AN.two 1 7 (by kernel_rfl) ?_ ?_
     ·refine AO.read rfl gnone rfl hH83 (sP (sQ (sQ (sP (sP (sP (sA sR))))))) (run_ld underlying94 rfl rfl (hH83.cell (i := 2) rfl rfl)) <| A1 7 <| AO.new rfl gnone rfl hH83 (sP (sQ (sQ (sP (sP (sP (sA sR))))))) (f := fun b => .slice (some ⟨b, 0, none⟩) 1 1) (run_mkRecs nodeL_len underlying94 rfl rfl rfl (l := [n84]) rfl (by decide) (by decide) rfl) <| fun b91 w89 hH90 => A1 8 <| AO.app rfl gnone rfl hH90 (j := 2) rfl (fun _ => (sQ (sP (sQ (sQ (sP (sP (sP (sA sR))))))))) (Hp.slFlat nodeL_len hH90 (i := 0) (l := [n84]) rfl (by simp [maxLen])) rfl rfl underlying94 rfl rfl (size := 5) (bytes := 80) rfl rfl rfl (by decide) (node1_one nv86) (by simp only [List.length_cons, List.length_nil]; omega) (by simp only [maxLen, List.length_cons, List.length_nil]; omega) <| fun v94 w92 hH93 => ?_
      simp only [z2] at hH93
      refine AQ 9 rfl (hH93.sub (sQ (sP (sQ (sQ (sP (sP (sP (sA sR))))))))) (fA underlying96 4 rfl sizeOf94 e5_43) <| A1 10 <| AO.set rfl gnone hH93 (j := 3) rfl (sQ (sP (sQ (sQ (sP (sP (sP (sA sR)))))))) (run_st rfl rfl (v := v94) rfl (row_cells (hH93.get (i := 2) rfl)).1 (row_cells (hH93.get (i := 2) rfl)).2 (hH93.blk (i := 3) rfl) (by show 4 < 5; decide)) <| fun w97 hH98 => ?_
      simp only [z2] at hH98
      refine AD <| CW.region <| V (run_add e27_43 rfl (by omega)) <| mI rfl <| RL.nil <| ?_
      refine ⟨(k + 1, v94, (gs ++ [n84]), (Z81 ++ Z)), ?_, fr43.u4.u4.u4.u4.u1.u1, (Hp.conv (hH98.sub (sQ (sQ sR))) (by simp [nodeL, kidsR, kindR, NodeR.kind, NodeR.place, NodeR.text, NodeR.nv, NodeR.kv]; done)), (congrArg I (by rfl)), ?_, ?_, ?_, ?_, ?_⟩
      ·((try dsimp only); omega)
      ·omega
      ·omega
      ·rw [consts_nextR h0, List.map_append, hm]; exact congrArg (_ ++ [·]) nd85
      ·exact (hF.mono (Le.zz fun y hy => List.mem_append_right _ hy)).snoc (NodeV.mono (Le.zz fun y hy => List.mem_append_left _ hy) nv86)
      ·simp only [List.length_append, List.length_singleton]; omega
     ·refine AO.new rfl gnone rfl hH83 (sP (sQ (sQ (sP (sP (sP (sA sR))))))) (f := fun b => .slice (some ⟨b, 0, none⟩) 1 1) (run_mkRecs nodeL_len underlying94 rfl rfl rfl (l := [n84]) rfl (by decide) (by decide) rfl) <| fun b101 w99 hH100 => A1 1 <| AO.read rfl gnone rfl hH100 (sQ (sP (sQ (sQ (sP (sP (sP (sA sR)))))))) (run_ld underlying94 rfl rfl (hH100.cell (i := 3) rfl rfl)) <| A1 8 <| AO.app rfl gnone rfl hH100 (j := 2) rfl (fun _ => (sQ (sP (sQ (sQ (sP (sP (sP (sA sR))))))))) (Hp.slFlat nodeL_len hH100 (i := 0) (l := [n84]) rfl (by simp [maxLen])) rfl rfl underlying94 rfl rfl (size := 5) (bytes := 80) rfl rfl rfl (by decide) (node1_one nv86) (by simp only [List.length_cons, List.length_nil]; omega) (by simp only [maxLen, List.length_cons, List.length_nil]; omega) <| fun v106 w104 hH105 => ?_
      simp only [z2] at hH105
      refine AQ 9 rfl (hH105.sub (sQ (sP (sQ (sQ (sP (sP (sP (sA sR))))))))) (fA underlying96 4 rfl sizeOf94 e5_43) <| A1 10 <| AO.set rfl gnone hH105 (j := 3) rfl (sQ (sP (sQ (sQ (sP (sP (sP (sA sR)))))))) (run_st rfl rfl (v := v106) rfl (row_cells (hH105.get (i := 2) rfl)).1 (row_cells (hH105.get (i := 2) rfl)).2 (hH105.blk (i := 3) rfl) (by show 4 < 5; decide)) <| fun w109 hH110 => ?_
      simp only [z2] at hH110
      refine AD <| CW.region <| V (run_add e27_43 rfl (by omega)) <| mI rfl <| RL.nil <| ?_
      refine ⟨(k + 1, v106, (gs ++ [n84]), (Z81 ++ Z)), ?_, fr43.u4.u4.u4.u4.u1.u1, (Hp.conv (hH110.sub (sQ (sQ sR))) (by simp [nodeL, kidsR, kindR, NodeR.kind, NodeR.place, NodeR.text, NodeR.nv, NodeR.kv]; done)), (congrArg I (by rfl)), ?_, ?_, ?_, ?_, ?_⟩
      ·((try dsimp only); omega)
      ·omega
      ·omega
      ·rw [consts_nextR h0, List.map_append, hm]; exact congrArg (_ ++ [·]) nd85
      ·exact (hF.mono (Le.zz fun y hy => List.mem_append_right _ hy)).snoc (NodeV.mono (Le.zz fun y hy => List.mem_append_left _ hy) nv86)
      ·simp only [List.length_append, List.length_singleton]; omega
   ·refine CW.exit (id := 0) rfl <| SR <| ?_
    obtain ⟨Z111, hz112, hv113, -⟩ := hH43.frz (K)
    have hH114 : Hp _ w43 (_ :: _ :: _ :: _ :: (Z111 ++ Z)) := hz112.zin (L := [_, _, _, _]) (L' := Z)
    have hN115 : NodeV (Kz K (Z111 ++ Z)) ((kidsR 4 kv gs)) := kidsR_v (hv113.mono (Le.zz fun x hx => List.mem_append_left _ hx)) (hF.mono (Le.zz fun x hx => List.mem_append_right _ hx))
    refine V (run_ldA (cs := nodeL ((kidsR 4 kv gs))) underlying96 rfl rfl e5_43 (rangeAt_cells (hH114.blk (i := 0) rfl))) <| RL.set hH114 (i := 1) rfl (run_stW (c' := (nodeL ((kidsR 4 kv gs))).toArray) rfl e4_43 rfl (nodeL_one hN115) (hH114.blk (i := 1) rfl) rfl) <| fun w116 hH117 => ?_
    simp only [z2] at hH117
    refine RL.nil <| CW.ret <| outCg Tryz.results65 e4_43 hH117 (i := 1) rfl underlying96 rfl rfl ⟨(Z111 ++ Z), (hH117.sub (sQ (sQ (sQ (sQ sR))))), (kidsR 4 kv gs), rfl, ?_, hN115⟩
    exact nodeF_t hfit (nf ‹(!s.tuple) = false›) (by omega) hm
theorem c_clearanceref11_constant (K : Vu) (f : Fac) (s : BitVec 64) (hR : factorR f.fc = true) (hw : wordF f.fc s = true) (w : World) (hK : Le K (Kw w)) (hf : FacV K f) : Calls Tryz.prog 96 #[.agg (facC f), U s] w (PureF K (fun K' u => ∃ n : NodeR, u = .agg (nodeL n).toArray ∧ n.nd = constF f.fc s ∧ NodeV K' n) w) := by
 have hm1 := hf.names.small
 unfold maxLen at hm1
 have hno := (named_spec (fac_named hR)).1
 have hno2 : 1 ≤ f.names.length ∧ f.names.length ≤ 64 := hno
 refine enter Tryz.func96 rfl Tryz.ntmps96 rfl <| have hH := Hp.start w; SR <| RL.new rfl hH (f := fun b => (.pointer (some ⟨b, 0, none⟩))) (run_box (v := .agg _) rfl) <| fun b3 w1 hH2 => RL.new rfl hH2 (f := fun b => (.pointer (some ⟨b, 0, none⟩))) (run_alloc Tryz.zeroValue96) <| fun b6 w4 hH5 => RL.nil <| CW.seq <| SR <| V (fA underlying59 0 rfl sizeOf3 rfl) <| V (run_ld underlying3 rfl rfl (hH5.cell (i := 1) rfl (v := I _) rfl)) <| V (run_eql rfl rfl) <| RL.nil <| CW.condP rfl (fun h8 => ?_) (fun h8 => ?_)
 ·refine SR <| V (fA underlying59 1 rfl sizeOf54 rfl) <| V (run_ld underlying54 rfl rfl (hH5.cell (i := 1) rfl rfl)) <| mU rfl <| RL.callF rfl hH5 (c_clearanceref11_named K _ f.names s hno.2 (sub_2 (f := f.fc) ‹f.kind = 2› hw) _ (hK.trans hH5.kw) (hf.names.mono (hK.trans hH5.kw)).sl) (run_call2 call123 rfl rfl) <| fun v11 w12 Z14 hH13 hp15 => have hH16 : Hp _ w12 (_ :: _ :: Z14) := hH13.zin0 (L := [_, _]); have hv17 := hp15; V (run_bld (vs := [(0, I 3), (3, v11)]) rfl (built_nodeN (one_slv hv17).2 3 (namesOf f.names s))) <| RL.set hH16 (i := 0) rfl (run_stW (c' := (nodeL (kindR 3 tx0 v11 (namesOf f.names s))).toArray) rfl rfl rfl (nodeL_one (kindR_v hv17)) (hH16.blk (i := 0) rfl) rfl) <| fun w18 hH19 => ?_
  simp only [z2] at hH19
  refine RL.nil <| CW.ret <| outCg Tryz.results96 rfl hH19 (i := 0) rfl underlying96 rfl rfl ⟨Z14, (hH19.sub (sQ (sQ sR))), (kindR 3 tx0 v11 (namesOf f.names s)), rfl, ?_, (kindR_v hv17)⟩
  have e2 := nd_2 (f := f.fc) ‹f.kind = 2› (w := s) (nv := v11); rw [kn_2 (f := f.fc) ‹f.kind = 2›] at e2; exact e2
 ·refine CW.skip <| CW.seq <| SR <| V (fA underlying59 0 rfl sizeOf3 rfl) <| V (run_ld underlying3 rfl rfl (hH5.cell (i := 1) rfl (v := I _) rfl)) <| V (run_eql rfl rfl) <| RL.nil <| CW.condP rfl (fun h21 => ?_) (fun h21 => ?_)
  ·refine SR <| V (run_bld (vs := [(0, I 5)]) rfl (built_nodeK 5)) <| RL.new rfl hH5 (f := fun b => (.pointer (some ⟨b, 0, none⟩))) (run_alloc Tryz.zeroValue96) <| fun b24 w22 hH23 => RL.set hH23 (i := 0) rfl (run_stW (c' := (nodeL (kindR 5 tx0 (.slice none 0 0) [])).toArray) rfl rfl rfl (nodeL_one (kindR_v (SlV.nil (Kw w) _))) (hH23.blk (i := 0) rfl) rfl) <| fun w25 hH26 => ?_
   simp only [z2] at hH26
   have hH27 := hH26.nilRow 96 5
   refine RL.nil <| CW.seq <| SR <| va (v := I 0) rfl <| RL.nil <| CW.block <| CW.loop (G := Int × Value × (List NodeR) × (List Ent)) (fun ⟨k, kv, gs, Z⟩ s' w' => (Fr (6 :: (rg 21 32 [])) _ s') ∧ (Hp w w' (.row kv 96 5 (gs.length) (gs.flatMap nodeL) :: .blk b24 (.cells ((nodeL (kidsR 5 kv gs)).toArray) 96 (0, 0)) :: _ :: _ :: Z)) ∧ (s' 6 = I k) ∧ (0 ≤ k) ∧ (k ≤ f.names.length) ∧ (gs.map NodeR.nd = ruledTo f.fc s k) ∧ (NodesV (Kz K Z) gs) ∧ ((gs.length : Int) ≤ k)) (fun ⟨k, kv, gs, Z⟩ => (f.names.length - k).toNat) ((0, (.slice none 0 0 : Value), [], [])) ⟨Fr.refl _ _, hH27, rfl, (by omega), (by omega), rfl, NodesV.nil _, (by simp)⟩ <| ?_
   rintro ⟨k, kv, gs, Z⟩ sg28 w28 ⟨fr28, hH28, e6_28, h0, hk, hm, hF, hb⟩
   have e1_28 := fr28.uu 1 rfl rfl
   have e2_28 := fr28.pp 2 rfl rfl
   have e4_28 := fr28.pp 4 rfl rfl
   have e5_28 := fr28.pp 5 rfl rfl
   refine CW.seq <| SR <| vm e6_28 <| V (fA underlying59 1 rfl sizeOf54 e2_28) <| V (run_ld underlying54 rfl rfl (hH28.cell (i := 3) rfl rfl)) <| V (run_lenSl ((hf.mono hK).names.sl.hp hH28) rfl underlying54 rfl) <| V (run_lss rfl rfl) <| RL.nil <| CW.condP rfl (fun h30 => ?_) (fun h30 => ?_)
   ·refine CW.skip <| CW.seq <| CW.block <| SR <| V (fA underlying59 2 rfl sizeOf57 e2_28) <| V (run_ldBR underlying57 rfl rfl rfl (hH28.blk (i := 3) rfl)) <| vm e1_28 <| RL.callP rfl hH28 (c_clearanceref05_Owners _ _  _) (run_call2 call124 rfl rfl) <| fun w31 hH32 => vm e6_28 <| RL.callP rfl hH32 (c_clearanceref01_Has _ _  _) (run_call2 call98 rfl rfl) <| fun w33 hH34 => RL.nil <| CW.cond rfl (fun h36 => ?_) (fun h36 => ?_)
    ·refine CW.regionS (by kernel_rfl) hH34 (sQ (sQ sR)) <| fun w37 hH38 => have zh38 := hH38.sub (sQ (sQ sR)); AQ 0 rfl zh38 (fA underlying96 4 rfl sizeOf94 e5_28) <| AQ 2 rfl zh38 (fA underlying59 1 rfl sizeOf54 e2_28) <| AT 3 rfl zh38 (fun w hS => run_ld underlying54 rfl rfl (hS.cell (i := 1) rfl rfl)) <| AQ 4 rfl zh38 (run_move e6_28) <| AT 5 rfl zh38 (fun w hS => run_indexAddrS ((hf.mono hK).names.sl.hp hS) underlying54 sizeOf9 rfl rfl (by omega)) <| AT 6 rfl zh38 (fun w hS => run_ld underlying9 rfl rfl (((hf.mono hK).names.sl.hp hS).cell _ _ (txL_at (by omega)))) <| AQ 7 rfl zh38 (fA underlying59 1 rfl sizeOf54 e2_28) <| AT 8 rfl zh38 (fun w hS => run_ld underlying54 rfl rfl (hS.cell (i := 1) rfl rfl)) <| AQ 9 rfl zh38 (fA underlying59 2 rfl sizeOf57 e2_28) <| AT 10 rfl zh38 (fun w hS => run_ldBR underlying57 rfl rfl rfl (hS.blk (i := 1) rfl)) <| AQ 11 rfl zh38 (run_move e1_28) <| AQ 12 rfl zh38 (run_move e6_28) <| AN.two 1 13 (by kernel_rfl) ?_ ?_
     ·refine AO.read rfl gnone rfl hH38 (sQ (sQ sR)) (run_ld underlying94 rfl rfl (hH38.cell (i := 1) rfl rfl)) <| A1 13 <| AO.callP rfl gnone rfl hH38 (sQ (sQ sR)) (c_clearanceref05_Readers _ _ _  _) (run_call3 call125 rfl rfl rfl) <| fun w41 hH42 => A1 14 <| AO.callF rfl gnone rfl hH42 (sQ (sQ sR)) (c_clearanceref11_named K _ f.names (readersG f.rel s k) hno.2 (sub_r (f := f.fc) hR ‹f.kind = 3› _ _) _ (hK.trans hH42.kw) (hf.names.mono (hK.trans hH42.kw)).sl) (run_call2 call123 rfl rfl) <| fun v45 w46 Z48 hH47 hp49 => have hH50 : Hp _ w46 (_ :: _ :: _ :: _ :: (Z48 ++ Z)) := hH47.zin (L := [_, _, _, _]) (L' := Z); have hv51 := hp49; AQ 15 rfl (hH50.sub (sQ (sQ (sP (sP (sA sR)))))) (run_bld (vs := [(0, I 6), (2, S (f.names.getD k.toNat tx0)), (3, v45)]) rfl (built_nodeTN (one_slv hv51).2 6 (f.names.getD k.toNat tx0) (namesOf f.names (readersG f.rel s k)))) <| A1 16 <| AO.new rfl gnone rfl hH50 (sQ (sQ (sP (sP (sA sR))))) (f := fun b => .slice (some ⟨b, 0, none⟩) 1 1) (run_mkRecs nodeL_len underlying94 rfl rfl rfl (l := [(kindR 6 (f.names.getD k.toNat tx0) v45 (namesOf f.names (readersG f.rel s k)))]) rfl (by decide) (by decide) rfl) <| fun b54 w52 hH53 => A1 17 <| AO.app rfl gnone rfl hH53 (j := 1) rfl (fun _ => (sQ (sQ (sQ (sP (sP (sA sR))))))) (Hp.slFlat nodeL_len hH53 (i := 0) (l := [(kindR 6 (f.names.getD k.toNat tx0) v45 (namesOf f.names (readersG f.rel s k)))]) rfl (by simp [maxLen])) rfl rfl underlying94 rfl rfl (size := 5) (bytes := 80) rfl rfl rfl (by decide) (node1_one (kindR_v hv51)) (by simp only [List.length_cons, List.length_nil]; omega) (by simp only [maxLen, List.length_cons, List.length_nil]; omega) <| fun v57 w55 hH56 => ?_
      simp only [z2] at hH56
      refine AQ 18 rfl (hH56.sub (sQ (sQ (sQ (sP (sP (sA sR))))))) (fA underlying96 4 rfl sizeOf94 e5_28) <| A1 19 <| AO.set rfl gnone hH56 (j := 2) rfl (sQ (sQ (sQ (sP (sP (sA sR)))))) (run_st rfl rfl (v := v57) rfl (row_cells (hH56.get (i := 1) rfl)).1 (row_cells (hH56.get (i := 1) rfl)).2 (hH56.blk (i := 2) rfl) (by show 4 < 5; decide)) <| fun w60 hH61 => ?_
      simp only [z2] at hH61
      refine AD <| CW.region <| vm e6_28 <| V (run_add rfl rfl (by omega)) <| aI rfl <| RL.nil <| ?_
      refine ⟨(k + 1, v57, (gs ++ [(kindR 6 (f.names.getD k.toNat tx0) v45 (namesOf f.names (readersG f.rel s k)))]), (Z48 ++ Z)), ?_, fr28.u4.u4.u4.u4.u4.u4.u4.u4.u1, (Hp.conv (hH61.sub (sQ sR)) (by simp [nodeL, kidsR, kindR, NodeR.kind, NodeR.place, NodeR.text, NodeR.nv, NodeR.kv]; done)), (congrArg I (by rfl)), ?_, ?_, ?_, ?_, ?_⟩
      ·((try dsimp only); omega)
      ·omega
      ·omega
      ·rw [ruled_y (f := f.fc) h0 ‹hasB (ownersG f.rel s) k = true›, List.map_append, hm]; exact congrArg (_ ++ [·]) (rule_nd (f := f.fc) (w := s) (o := k))
      ·exact (hF.mono (Le.zz fun y hy => List.mem_append_right _ hy)).snoc (NodeV.mono (Le.zz fun y hy => List.mem_append_left _ hy) (kindR_v hv51))
      ·simp only [List.length_append, List.length_singleton]; omega
     ·refine AO.callP rfl gnone rfl hH38 (sQ (sQ sR)) (c_clearanceref05_Readers _ _ _  _) (run_call3 call125 rfl rfl rfl) <| fun w62 hH63 => AN.two 1 14 (by kernel_rfl) ?_ ?_
      ·refine AO.read rfl gnone rfl hH63 (sQ (sQ sR)) (run_ld underlying94 rfl rfl (hH63.cell (i := 1) rfl rfl)) <| A1 14 <| AO.callF rfl gnone rfl hH63 (sQ (sQ sR)) (c_clearanceref11_named K _ f.names (readersG f.rel s k) hno.2 (sub_r (f := f.fc) hR ‹f.kind = 3› _ _) _ (hK.trans hH63.kw) (hf.names.mono (hK.trans hH63.kw)).sl) (run_call2 call123 rfl rfl) <| fun v68 w69 Z71 hH70 hp72 => have hH73 : Hp _ w69 (_ :: _ :: _ :: _ :: (Z71 ++ Z)) := hH70.zin (L := [_, _, _, _]) (L' := Z); have hv74 := hp72; AQ 15 rfl (hH73.sub (sQ (sQ (sP (sP (sA sR)))))) (run_bld (vs := [(0, I 6), (2, S (f.names.getD k.toNat tx0)), (3, v68)]) rfl (built_nodeTN (one_slv hv74).2 6 (f.names.getD k.toNat tx0) (namesOf f.names (readersG f.rel s k)))) <| A1 16 <| AO.new rfl gnone rfl hH73 (sQ (sQ (sP (sP (sA sR))))) (f := fun b => .slice (some ⟨b, 0, none⟩) 1 1) (run_mkRecs nodeL_len underlying94 rfl rfl rfl (l := [(kindR 6 (f.names.getD k.toNat tx0) v68 (namesOf f.names (readersG f.rel s k)))]) rfl (by decide) (by decide) rfl) <| fun b77 w75 hH76 => A1 17 <| AO.app rfl gnone rfl hH76 (j := 1) rfl (fun _ => (sQ (sQ (sQ (sP (sP (sA sR))))))) (Hp.slFlat nodeL_len hH76 (i := 0) (l := [(kindR 6 (f.names.getD k.toNat tx0) v68 (namesOf f.names (readersG f.rel s k)))]) rfl (by simp [maxLen])) rfl rfl underlying94 rfl rfl (size := 5) (bytes := 80) rfl rfl rfl (by decide) (node1_one (kindR_v hv74)) (by simp only [List.length_cons, List.length_nil]; omega) (by simp only [maxLen, List.length_cons, List.length_nil]; omega) <| fun v80 w78 hH79 => ?_
       simp only [z2] at hH79
       refine AQ 18 rfl (hH79.sub (sQ (sQ (sQ (sP (sP (sA sR))))))) (fA underlying96 4 rfl sizeOf94 e5_28) <| A1 19 <| AO.set rfl gnone hH79 (j := 2) rfl (sQ (sQ (sQ (sP (sP (sA sR)))))) (run_st rfl rfl (v := v80) rfl (row_cells (hH79.get (i := 1) rfl)).1 (row_cells (hH79.get (i := 1) rfl)).2 (hH79.blk (i := 2) rfl) (by show 4 < 5; decide)) <| fun w83 hH84 => ?_
       simp only [z2] at hH84
       refine AD <| CW.region <| vm e6_28 <| V (run_add rfl rfl (by omega)) <| aI rfl <| RL.nil <| ?_
       refine ⟨(k + 1, v80, (gs ++ [(kindR 6 (f.names.getD k.toNat tx0) v68 (namesOf f.names (readersG f.rel s k)))]), (Z71 ++ Z)), ?_, fr28.u4.u4.u4.u4.u4.u4.u4.u4.u1, (Hp.conv (hH84.sub (sQ sR)) (by simp [nodeL, kidsR, kindR, NodeR.kind, NodeR.place, NodeR.text, NodeR.nv, NodeR.kv]; done)), (congrArg I (by rfl)), ?_, ?_, ?_, ?_, ?_⟩
       ·((try dsimp only); omega)
       ·omega
       ·omega
       ·rw [ruled_y (f := f.fc) h0 ‹hasB (ownersG f.rel s) k = true›, List.map_append, hm]; exact congrArg (_ ++ [·]) (rule_nd (f := f.fc) (w := s) (o := k))
       ·exact (hF.mono (Le.zz fun y hy => List.mem_append_right _ hy)).snoc (NodeV.mono (Le.zz fun y hy => List.mem_append_left _ hy) (kindR_v hv74))
       ·simp only [List.length_append, List.length_singleton]; omega
      ·refine AO.callF rfl gnone rfl hH63 (sQ (sQ sR)) (c_clearanceref11_named K _ f.names (readersG f.rel s k) hno.2 (sub_r (f := f.fc) hR ‹f.kind = 3› _ _) _ (hK.trans hH63.kw) (hf.names.mono (hK.trans hH63.kw)).sl) (run_call2 call123 rfl rfl) <| fun v87 w88 Z90 hH89 hp91 => have hH92 : Hp _ w88 (_ :: _ :: _ :: _ :: (Z90 ++ Z)) := hH89.zin (L := [_, _, _, _]) (L' := Z); have hv93 := hp91; AQ 15 rfl (hH92.sub (sQ (sQ (sP (sP (sA sR)))))) (run_bld (vs := [(0, I 6), (2, S (f.names.getD k.toNat tx0)), (3, v87)]) rfl (built_nodeTN (one_slv hv93).2 6 (f.names.getD k.toNat tx0) (namesOf f.names (readersG f.rel s k)))) <| AN.two 1 16 (by kernel_rfl) ?_ ?_
       ·refine AO.read rfl gnone rfl hH92 (sQ (sQ (sP (sP (sA sR))))) (run_ld underlying94 rfl rfl (hH92.cell (i := 1) rfl rfl)) <| A1 16 <| AO.new rfl gnone rfl hH92 (sQ (sQ (sP (sP (sA sR))))) (f := fun b => .slice (some ⟨b, 0, none⟩) 1 1) (run_mkRecs nodeL_len underlying94 rfl rfl rfl (l := [(kindR 6 (f.names.getD k.toNat tx0) v87 (namesOf f.names (readersG f.rel s k)))]) rfl (by decide) (by decide) rfl) <| fun b98 w96 hH97 => A1 17 <| AO.app rfl gnone rfl hH97 (j := 1) rfl (fun _ => (sQ (sQ (sQ (sP (sP (sA sR))))))) (Hp.slFlat nodeL_len hH97 (i := 0) (l := [(kindR 6 (f.names.getD k.toNat tx0) v87 (namesOf f.names (readersG f.rel s k)))]) rfl (by simp [maxLen])) rfl rfl underlying94 rfl rfl (size := 5) (bytes := 80) rfl rfl rfl (by decide) (node1_one (kindR_v hv93)) (by simp only [List.length_cons, List.length_nil]; omega) (by simp only [maxLen, List.length_cons, List.length_nil]; omega) <| fun v101 w99 hH100 => ?_
        simp only [z2] at hH100
        refine AQ 18 rfl (hH100.sub (sQ (sQ (sQ (sP (sP (sA sR))))))) (fA underlying96 4 rfl sizeOf94 e5_28) <| A1 19 <| AO.set rfl gnone hH100 (j := 2) rfl (sQ (sQ (sQ (sP (sP (sA sR)))))) (run_st rfl rfl (v := v101) rfl (row_cells (hH100.get (i := 1) rfl)).1 (row_cells (hH100.get (i := 1) rfl)).2 (hH100.blk (i := 2) rfl) (by show 4 < 5; decide)) <| fun w104 hH105 => ?_
        simp only [z2] at hH105
        refine AD <| CW.region <| vm e6_28 <| V (run_add rfl rfl (by omega)) <| aI rfl <| RL.nil <| ?_
        refine ⟨(k + 1, v101, (gs ++ [(kindR 6 (f.names.getD k.toNat tx0) v87 (namesOf f.names (readersG f.rel s k)))]), (Z90 ++ Z)), ?_, fr28.u4.u4.u4.u4.u4.u4.u4.u4.u1, (Hp.conv (hH105.sub (sQ sR)) (by simp [nodeL, kidsR, kindR, NodeR.kind, NodeR.place, NodeR.text, NodeR.nv, NodeR.kv]; done)), (congrArg I (by rfl)), ?_, ?_, ?_, ?_, ?_⟩
        ·((try dsimp only); omega)
        ·omega
        ·omega
        ·rw [ruled_y (f := f.fc) h0 ‹hasB (ownersG f.rel s) k = true›, List.map_append, hm]; exact congrArg (_ ++ [·]) (rule_nd (f := f.fc) (w := s) (o := k))
        ·exact (hF.mono (Le.zz fun y hy => List.mem_append_right _ hy)).snoc (NodeV.mono (Le.zz fun y hy => List.mem_append_left _ hy) (kindR_v hv93))
        ·simp only [List.length_append, List.length_singleton]; omega
       ·refine AO.new rfl gnone rfl hH92 (sQ (sQ (sP (sP (sA sR))))) (f := fun b => .slice (some ⟨b, 0, none⟩) 1 1) (run_mkRecs nodeL_len underlying94 rfl rfl rfl (l := [(kindR 6 (f.names.getD k.toNat tx0) v87 (namesOf f.names (readersG f.rel s k)))]) rfl (by decide) (by decide) rfl) <| fun b108 w106 hH107 => A1 1 <| AO.read rfl gnone rfl hH107 (sQ (sQ (sQ (sP (sP (sA sR)))))) (run_ld underlying94 rfl rfl (hH107.cell (i := 2) rfl rfl)) <| A1 17 <| AO.app rfl gnone rfl hH107 (j := 1) rfl (fun _ => (sQ (sQ (sQ (sP (sP (sA sR))))))) (Hp.slFlat nodeL_len hH107 (i := 0) (l := [(kindR 6 (f.names.getD k.toNat tx0) v87 (namesOf f.names (readersG f.rel s k)))]) rfl (by simp [maxLen])) rfl rfl underlying94 rfl rfl (size := 5) (bytes := 80) rfl rfl rfl (by decide) (node1_one (kindR_v hv93)) (by simp only [List.length_cons, List.length_nil]; omega) (by simp only [maxLen, List.length_cons, List.length_nil]; omega) <| fun v113 w111 hH112 => ?_
        simp only [z2] at hH112
        refine AQ 18 rfl (hH112.sub (sQ (sQ (sQ (sP (sP (sA sR))))))) (fA underlying96 4 rfl sizeOf94 e5_28) <| A1 19 <| AO.set rfl gnone hH112 (j := 2) rfl (sQ (sQ (sQ (sP (sP (sA sR)))))) (run_st rfl rfl (v := v113) rfl (row_cells (hH112.get (i := 1) rfl)).1 (row_cells (hH112.get (i := 1) rfl)).2 (hH112.blk (i := 2) rfl) (by show 4 < 5; decide)) <| fun w116 hH117 => ?_
        simp only [z2] at hH117
        refine AD <| CW.region <| vm e6_28 <| V (run_add rfl rfl (by omega)) <| aI rfl <| RL.nil <| ?_
        refine ⟨(k + 1, v113, (gs ++ [(kindR 6 (f.names.getD k.toNat tx0) v87 (namesOf f.names (readersG f.rel s k)))]), (Z90 ++ Z)), ?_, fr28.u4.u4.u4.u4.u4.u4.u4.u4.u1, (Hp.conv (hH117.sub (sQ sR)) (by simp [nodeL, kidsR, kindR, NodeR.kind, NodeR.place, NodeR.text, NodeR.nv, NodeR.kv]; done)), (congrArg I (by rfl)), ?_, ?_, ?_, ?_, ?_⟩
        ·((try dsimp only); omega)
        ·omega
        ·omega
        ·rw [ruled_y (f := f.fc) h0 ‹hasB (ownersG f.rel s) k = true›, List.map_append, hm]; exact congrArg (_ ++ [·]) (rule_nd (f := f.fc) (w := s) (o := k))
        ·exact (hF.mono (Le.zz fun y hy => List.mem_append_right _ hy)).snoc (NodeV.mono (Le.zz fun y hy => List.mem_append_left _ hy) (kindR_v hv93))
        ·simp only [List.length_append, List.length_singleton]; omega
    ·refine CW.skip <| CW.region <| vm e6_28 <| V (run_add rfl rfl (by omega)) <| aI rfl <| RL.nil <| ?_
     refine ⟨(k + 1, kv, gs, Z), ?_, fr28.u4.u4.u4.u1.u1, (Hp.conv hH34 (by rfl)), (congrArg I (by rfl)), ?_, ?_, ?_, ?_, ?_⟩
     ·((try dsimp only); omega)
     ·omega
     ·omega
     ·rw [ruled_n (f := f.fc) h0 ‹hasB (ownersG f.rel s) k = false›, hm]
     ·exact hF
     ·omega
   ·refine CW.exit (id := 0) rfl <| SR <| ?_
    obtain ⟨Z118, hz119, hv120, -⟩ := hH28.frz (K)
    have hH121 : Hp _ w28 (_ :: _ :: _ :: (Z118 ++ Z)) := hz119.zin (L := [_, _, _]) (L' := Z)
    have hN122 : NodeV (Kz K (Z118 ++ Z)) ((kidsR 5 kv gs)) := kidsR_v (hv120.mono (Le.zz fun x hx => List.mem_append_left _ hx)) (hF.mono (Le.zz fun x hx => List.mem_append_right _ hx))
    refine V (run_ldA (cs := nodeL ((kidsR 5 kv gs))) underlying96 rfl rfl e5_28 (rangeAt_cells (hH121.blk (i := 0) rfl))) <| RL.set hH121 (i := 1) rfl (run_stW (c' := (nodeL ((kidsR 5 kv gs))).toArray) rfl e4_28 rfl (nodeL_one hN122) (hH121.blk (i := 1) rfl) rfl) <| fun w123 hH124 => ?_
    simp only [z2] at hH124
    refine RL.nil <| CW.ret <| outCg Tryz.results96 e4_28 hH124 (i := 1) rfl underlying96 rfl rfl ⟨(Z118 ++ Z), (hH124.sub (sQ (sQ (sQ sR)))), (kidsR 5 kv gs), rfl, ?_, hN122⟩
    have e3 := nd_3 (f := f.fc) ‹f.kind = 3› (kv := kv) (w := s) (hm.trans (ruled_all (f := f.fc) hR ‹f.kind = 3› ‹_› (by show k ≤ (f.names.length : Int); omega))); rw [kn_3 (f := f.fc) ‹f.kind = 3›] at e3; exact e3
  ·refine CW.skip <| SR <| V (fA underlying59 1 rfl sizeOf54 rfl) <| V (run_ld underlying54 rfl rfl (hH5.cell (i := 1) rfl rfl)) <| V (run_lenSl ((hf.mono hK).names.sl.hp hH5) rfl underlying54 rfl) <| mU rfl <| RL.callP rfl hH5 (c_clearanceref04_Level _ _  _) (run_call2 call81 rfl rfl) <| fun w125 hH126 => ?_
   refine V (run_move (by conv => lhs; whnf)) ?_
   refine V (run_extract rfl (v := I _) rfl) <| V (run_extract rfl (v := B _) rfl) <| aI rfl <| aB rfl <| RL.nil <| CW.seq <| SR <| V (fA underlying59 0 rfl sizeOf3 rfl) <| V (run_ld underlying3 rfl rfl (hH126.cell (i := 1) rfl (v := I _) rfl)) <| V (run_eql rfl rfl) <| RL.nil <| CW.condP rfl (fun h129 => ?_) (fun h129 => ?_)
   ·refine CW.region <| V (fA underlying59 2 rfl sizeOf57 rfl) <| V (run_ldBR underlying57 rfl rfl rfl (hH126.blk (i := 1) rfl)) <| mU rfl <| RL.callP rfl hH126 (c_clearanceref06_Point _ _  _) (run_call2 call83 rfl rfl) <| fun w130 hH131 => ?_
    refine V (run_move (by conv => lhs; whnf)) ?_
    refine V (run_extract rfl (v := I _) rfl) <| V (run_extract rfl (v := B _) rfl) <| aI rfl <| RL.nil <| SR <| V (fA underlying59 1 rfl sizeOf54 rfl) <| V (run_ld underlying54 rfl rfl (hH131.cell (i := 1) rfl rfl)) <| mI rfl <| V (run_indexAddrS ((hf.mono hK).names.sl.hp hH131) underlying54 sizeOf9 rfl rfl (by exact pt_in (f := f.fc) hR ‹f.kind = 4› hw)) <| V (run_ld underlying9 rfl rfl (((hf.mono hK).names.sl.hp hH131).cell _ _ (txL_at (by exact pt_in (f := f.fc) hR ‹f.kind = 4› hw)))) <| V (run_bld (vs := [(0, I 2), (2, S _)]) rfl (built_nodeT 2 _)) <| RL.set hH131 (i := 0) rfl (run_stW (c' := (nodeL (kindR 2 _ (.slice none 0 0) [])).toArray) rfl rfl rfl (nodeL_one (kindR_v (SlV.nil (Kw w) _))) (hH131.blk (i := 0) rfl) rfl) <| fun w133 hH134 => ?_
    simp only [z2] at hH134
    refine RL.nil <| CW.ret <| outCg Tryz.results96 rfl hH134 (i := 0) rfl underlying96 rfl rfl ⟨[], (hH134.sub (sQ (sQ sR))), (kindR 2 _ (.slice none 0 0) []), rfl, ?_, kindR_v (SlV.nil _ _)⟩
    have e4 := nd_4 (f := f.fc) ‹f.kind = 4› (w := s); rw [kn_1 (f := f.fc) ‹_› ‹_›] at e4; exact e4
   ·refine CW.skip <| SR <| V (fA underlying59 1 rfl sizeOf54 rfl) <| V (run_ld underlying54 rfl rfl (hH126.cell (i := 1) rfl rfl)) <| mI rfl <| V (run_indexAddrS ((hf.mono hK).names.sl.hp hH126) underlying54 sizeOf9 rfl rfl (by exact lv_in (f := f.fc) (kind_cases hR ‹_› ‹_› ‹_›) hw)) <| V (run_ld underlying9 rfl rfl (((hf.mono hK).names.sl.hp hH126).cell _ _ (txL_at (by exact lv_in (f := f.fc) (kind_cases hR ‹_› ‹_› ‹_›) hw)))) <| V (run_bld (vs := [(0, I 2), (2, S _)]) rfl (built_nodeT 2 _)) <| RL.set hH126 (i := 0) rfl (run_stW (c' := (nodeL (kindR 2 _ (.slice none 0 0) [])).toArray) rfl rfl rfl (nodeL_one (kindR_v (SlV.nil (Kw w) _))) (hH126.blk (i := 0) rfl) rfl) <| fun w135 hH136 => ?_
    simp only [z2] at hH136
    refine RL.nil <| CW.ret <| outCg Tryz.results96 rfl hH136 (i := 0) rfl underlying96 rfl rfl ⟨[], (hH136.sub (sQ (sQ sR))), (kindR 2 _ (.slice none 0 0) []), rfl, ?_, kindR_v (SlV.nil _ _)⟩
    have e1 := nd_1 (f := f.fc) ‹_› ‹_› ‹_› (w := s); rw [kn_1 (f := f.fc) ‹_› ‹_›] at e1; exact e1
theorem c_clearanceref11_Node (K : Vu) (s : Shp) (e : El) (w : World) (hK : Le K (Kw w)) (hs : ShpV K s) : Calls Tryz.prog 67 #[.agg (shpC s), .agg (elC e)] w (PureF K (fun K' u => ∃ n : NodeR, u = .agg (nodeL n).toArray ∧ n.nd = nodeF s.sh e ∧ NodeV K' n) w) := by
 have hsl := sh_len s
 have hm := hs.facs.small
 unfold maxLen at hm
 refine enter Tryz.func67 rfl Tryz.ntmps67 rfl <| have hH := Hp.start w; SR <| RL.new rfl hH (f := fun b => (.pointer (some ⟨b, 0, none⟩))) (run_box (v := .agg _) rfl) <| fun b3 w1 hH2 => RL.new rfl hH2 (f := fun b => (.pointer (some ⟨b, 0, none⟩))) (run_box (v := .agg _) rfl) <| fun b6 w4 hH5 => RL.new rfl hH5 (f := fun b => (.pointer (some ⟨b, 0, none⟩))) (run_alloc Tryz.zeroValue96) <| fun b9 w7 hH8 => RL.nil <| CW.seq <| SR <| V (run_ldA (cs := [B _, _]) underlying42 rfl rfl rfl (rangeAt_cells (hH8.blk (i := 2) rfl))) <| V (run_ldEl underlying51 rfl rfl rfl (hH8.blk (i := 1) rfl)) <| RL.callP rfl hH8 (c_clearanceref07_Fits _ _  _ ((hs.mono hK).mono hH8.kw)) (run_call2 call27 rfl rfl) <| fun w10 hH11 => V (run_not rfl) <| RL.nil <| CW.cond rfl (fun h14 => ?_) (fun h14 => ?_)
 ·refine SR <| V (run_bld (vs := []) rfl built_node0) <| RL.set hH11 (i := 0) rfl (run_stW (c' := (nodeL node0).toArray) rfl rfl rfl (nodeL_one (node0_v (K := Kw w))) (hH11.blk (i := 0) rfl) rfl) <| fun w15 hH16 => ?_
  simp only [z2] at hH16
  refine RL.nil <| CW.ret <| outCg Tryz.results67 rfl hH16 (i := 0) rfl underlying96 rfl rfl ⟨[], (hH16.sub (sQ (sQ (sQ sR)))), node0, rfl, ?_, node0_v⟩
  rw [nodeF_no (nt ‹(!fitsS s.sh e) = true›)]; exact node0_nd
 ·refine CW.skip <| CW.seq <| SR <| V (fA underlying42 0 rfl sizeOf4 rfl) <| V (run_ld underlying4 rfl rfl (hH11.cell (i := 2) rfl (v := B _) rfl)) <| V (run_not rfl) <| RL.nil <| CW.cond rfl (fun h19 => ?_) (fun h19 => ?_)
  ·refine CW.seq <| have hfit := nf ‹(!fitsS s.sh e) = false›; have hfl := fit_len hfit; CW.regionS (by kernel_rfl) hH11 (sQ sR) <| fun w20 hH21 => have zh21 := hH21.sub (sQ sR); AQ 0 rfl zh21 (fA underlying42 1 rfl sizeOf40 rfl) <| AT 1 rfl zh21 (fun w hS => run_ld underlying40 rfl rfl (hS.cell (i := 1) rfl rfl)) <| AT 2 rfl zh21 (fun w hS => run_indexAddrS ((hs.mono hK).facs.sl.hp hS) underlying40 sizeOf59 rfl rfl (by omega)) <| AT 3 rfl zh21 (fun w hS => run_ldE (dv := fac0) facL_len ((hs.mono hK).facs.sl.hp hS) underlying59 rfl rfl rfl (by omega)) <| AQ 4 rfl zh21 (run_indexAddrA underlying51 sizeOf49 rfl rfl (by omega)) <| AT 5 rfl zh21 (fun w hS => run_ld underlying49 rfl rfl (hS.cell (i := 0) rfl (elC_at _ (by omega)))) <| A1 6 <| AO.callF rfl gnone rfl hH21 (sQ sR) (c_clearanceref11_constant K (s.facs.getD (0 : Int).toNat fac0) (e (0 : Int).toNat) (fitR hfit (k := 0) (by omega) (by omega)).1 (fitR hfit (k := 0) (by omega) (by omega)).2 _ (hK.trans hH21.kw) (hs.at (k := 0) (by omega) (by omega))) (run_call2 call96 rfl rfl) <| fun v24 w25 Z27 hH26 hp28 => have hH29 : Hp _ w25 (_ :: _ :: _ :: Z27) := hH26.zin0 (L := [_, _, _]); ?_
   obtain ⟨n30, rfl, nd31, nv32⟩ := hp28
   refine A1 7 <| AO.set rfl gnone hH29 (j := 0) rfl (sQ (sP (sP (List.nil_sublist _)))) (run_stW (c' := (nodeL n30).toArray) rfl rfl rfl (nodeL_one nv32) (hH29.blk (i := 0) rfl) rfl) <| fun w35 hH36 => ?_
   simp only [z2] at hH36
   refine AD <| CW.ret <| outCg Tryz.results67 rfl hH36 (i := 0) rfl underlying96 rfl rfl ⟨Z27, (hH36.sub (sQ (sQ (sQ sR)))), n30, rfl, ?_, nv32⟩
   rw [nodeF_1 (nf ‹(!fitsS s.sh e) = false›) (nt ‹(!s.tuple) = true›)]; exact nd31
  ·refine CW.skip <| SR <| V (run_bld (vs := [(0, I 4)]) rfl (built_nodeK 4)) <| RL.new rfl hH11 (f := fun b => (.pointer (some ⟨b, 0, none⟩))) (run_alloc Tryz.zeroValue96) <| fun b39 w37 hH38 => RL.set hH38 (i := 0) rfl (run_stW (c' := (nodeL (kindR 4 tx0 (.slice none 0 0) [])).toArray) rfl rfl rfl (nodeL_one (kindR_v (SlV.nil (Kw w) _))) (hH38.blk (i := 0) rfl) rfl) <| fun w40 hH41 => ?_
   simp only [z2] at hH41
   have hH42 := hH41.nilRow 96 5
   refine RL.nil <| CW.seq <| SR <| va (v := I 0) rfl <| RL.nil <| CW.block <| have hfit := nf ‹(!fitsS s.sh e) = false›; have hfl := fit_len hfit; CW.loop (G := Int × Value × (List NodeR) × (List Ent)) (fun ⟨k, kv, gs, Z⟩ s' w' => (Fr (6 :: (rg 23 21 [])) _ s') ∧ (Hp w w' (.row kv 96 5 (gs.length) (gs.flatMap nodeL) :: .blk b39 (.cells ((nodeL (kidsR 4 kv gs)).toArray) 96 (0, 0)) :: _ :: _ :: _ :: Z)) ∧ (s' 6 = I k) ∧ (0 ≤ k) ∧ (k ≤ s.facs.length) ∧ (gs.map NodeR.nd = constsTo s.sh e k) ∧ (NodesV (Kz K Z) gs) ∧ ((gs.length : Int) = k)) (fun ⟨k, kv, gs, Z⟩ => (s.facs.length - k).toNat) ((0, (.slice none 0 0 : Value), [], [])) ⟨Fr.refl _ _, hH42, rfl, (by omega), (by omega), rfl, NodesV.nil _, rfl⟩ <| ?_
   rintro ⟨k, kv, gs, Z⟩ sg43 w43 ⟨fr43, hH43, e6_43, h0, hk, hm, hF, hb⟩
   have e2_43 := fr43.pp 2 rfl rfl
   have e3_43 := fr43.pp 3 rfl rfl
   have e4_43 := fr43.pp 4 rfl rfl
   have e5_43 := fr43.pp 5 rfl rfl
   refine CW.seq <| SR <| vm e6_43 <| V (fA underlying42 1 rfl sizeOf40 e2_43) <| V (run_ld underlying40 rfl rfl (hH43.cell (i := 4) rfl rfl)) <| V (run_lenSl ((hs.mono hK).facs.sl.hp hH43) rfl underlying40 rfl) <| V (run_lss rfl rfl) <| RL.nil <| CW.condP rfl (fun h45 => ?_) (fun h45 => ?_)
   ·refine CW.skip <| CW.seq <| CW.block <| CW.regionS (by kernel_rfl) hH43 (sQ (sQ sR)) <| fun w46 hH47 => have zh47 := hH47.sub (sQ (sQ sR)); AQ 0 rfl zh47 (fA underlying96 4 rfl sizeOf94 e5_43) <| AQ 2 rfl zh47 (fA underlying42 1 rfl sizeOf40 e2_43) <| AT 3 rfl zh47 (fun w hS => run_ld underlying40 rfl rfl (hS.cell (i := 2) rfl rfl)) <| AQ 4 rfl zh47 (run_move e6_43) <| AT 5 rfl zh47 (fun w hS => run_indexAddrS ((hs.mono hK).facs.sl.hp hS) underlying40 sizeOf59 rfl rfl (by omega)) <| AT 6 rfl zh47 (fun w hS => run_ldE (dv := fac0) facL_len ((hs.mono hK).facs.sl.hp hS) underlying59 rfl rfl rfl (by omega)) <| AQ 7 rfl zh47 (run_move e6_43) <| AQ 8 rfl zh47 (run_indexAddrA underlying51 sizeOf49 e3_43 rfl (by omega)) <| AT 9 rfl zh47 (fun w hS => run_ld underlying49 rfl rfl (hS.cell (i := 1) rfl (elC_at _ (by omega)))) <| AN.two 1 10 (by kernel_rfl) ?_ ?_
    ·refine AO.read rfl gnone rfl hH47 (sQ (sQ sR)) (run_ld underlying94 rfl rfl (hH47.cell (i := 1) rfl rfl)) <| A1 10 <| AO.callF rfl gnone rfl hH47 (sQ (sQ sR)) (c_clearanceref11_constant K (s.facs.getD k.toNat fac0) (e k.toNat) (fitR hfit h0 (by omega)).1 (fitR hfit h0 (by omega)).2 _ (hK.trans hH47.kw) (hs.at h0 (by omega))) (run_call2 call96 rfl rfl) <| fun v52 w53 Z55 hH54 hp56 => have hH57 : Hp _ w53 (_ :: _ :: _ :: _ :: _ :: (Z55 ++ Z)) := hH54.zin (L := [_, _, _, _, _]) (L' := Z); ?_
     obtain ⟨n58, rfl, nd59, nv60⟩ := hp56
     refine A1 11 <| AO.new rfl gnone rfl hH57 (sQ (sQ (sP (sP (sP (sA sR)))))) (f := fun b => .slice (some ⟨b, 0, none⟩) 1 1) (run_mkRecs nodeL_len underlying94 rfl rfl rfl (l := [n58]) rfl (by decide) (by decide) rfl) <| fun b63 w61 hH62 => A1 12 <| AO.app rfl gnone rfl hH62 (j := 1) rfl (fun _ => (sQ (sQ (sQ (sP (sP (sP (sA sR)))))))) (Hp.slFlat nodeL_len hH62 (i := 0) (l := [n58]) rfl (by simp [maxLen])) rfl rfl underlying94 rfl rfl (size := 5) (bytes := 80) rfl rfl rfl (by decide) (node1_one nv60) (by simp only [List.length_cons, List.length_nil]; omega) (by simp only [maxLen, List.length_cons, List.length_nil]; omega) <| fun v66 w64 hH65 => ?_
     simp only [z2] at hH65
     refine AQ 13 rfl (hH65.sub (sQ (sQ (sQ (sP (sP (sP (sA sR)))))))) (fA underlying96 4 rfl sizeOf94 e5_43) <| A1 14 <| AO.set rfl gnone hH65 (j := 2) rfl (sQ (sQ (sQ (sP (sP (sP (sA sR))))))) (run_st rfl rfl (v := v66) rfl (row_cells (hH65.get (i := 1) rfl)).1 (row_cells (hH65.get (i := 1) rfl)).2 (hH65.blk (i := 2) rfl) (by show 4 < 5; decide)) <| fun w69 hH70 => ?_
     simp only [z2] at hH70
     refine AD <| CW.region <| vm e6_43 <| V (run_add rfl rfl (by omega)) <| aI rfl <| RL.nil <| ?_
     refine ⟨(k + 1, v66, (gs ++ [n58]), (Z55 ++ Z)), ?_, fr43.u4.u4.u4.u4.u4.u1.u1, (Hp.conv (hH70.sub (sQ sR)) (by simp [nodeL, kidsR, kindR, NodeR.kind, NodeR.place, NodeR.text, NodeR.nv, NodeR.kv]; done)), (congrArg I (by rfl)), ?_, ?_, ?_, ?_, ?_⟩
     ·((try dsimp only); omega)
     ·omega
     ·omega
     ·rw [consts_nextR h0, List.map_append, hm]; exact congrArg (_ ++ [·]) nd59
     ·exact (hF.mono (Le.zz fun y hy => List.mem_append_right _ hy)).snoc (NodeV.mono (Le.zz fun y hy => List.mem_append_left _ hy) nv60)
     ·simp only [List.length_append, List.length_singleton]; omega
    ·refine AO.callF rfl gnone rfl hH47 (sQ (sQ sR)) (c_clearanceref11_constant K (s.facs.getD k.toNat fac0) (e k.toNat) (fitR hfit h0 (by omega)).1 (fitR hfit h0 (by omega)).2 _ (hK.trans hH47.kw) (hs.at h0 (by omega))) (run_call2 call96 rfl rfl) <| fun v73 w74 Z76 hH75 hp77 => have hH78 : Hp _ w74 (_ :: _ :: _ :: _ :: _ :: (Z76 ++ Z)) := hH75.zin (L := [_, _, _, _, _]) (L' := Z); ?_
     obtain ⟨n79, rfl, nd80, nv81⟩ := hp77
     refine AN.two 1 11 (by kernel_rfl) ?_ ?_
     ·refine AO.read rfl gnone rfl hH78 (sQ (sQ (sP (sP (sP (sA sR)))))) (run_ld underlying94 rfl rfl (hH78.cell (i := 1) rfl rfl)) <| A1 11 <| AO.new rfl gnone rfl hH78 (sQ (sQ (sP (sP (sP (sA sR)))))) (f := fun b => .slice (some ⟨b, 0, none⟩) 1 1) (run_mkRecs nodeL_len underlying94 rfl rfl rfl (l := [n79]) rfl (by decide) (by decide) rfl) <| fun b86 w84 hH85 => A1 12 <| AO.app rfl gnone rfl hH85 (j := 1) rfl (fun _ => (sQ (sQ (sQ (sP (sP (sP (sA sR)))))))) (Hp.slFlat nodeL_len hH85 (i := 0) (l := [n79]) rfl (by simp [maxLen])) rfl rfl underlying94 rfl rfl (size := 5) (bytes := 80) rfl rfl rfl (by decide) (node1_one nv81) (by simp only [List.length_cons, List.length_nil]; omega) (by simp only [maxLen, List.length_cons, List.length_nil]; omega) <| fun v89 w87 hH88 => ?_
      simp only [z2] at hH88
      refine AQ 13 rfl (hH88.sub (sQ (sQ (sQ (sP (sP (sP (sA sR)))))))) (fA underlying96 4 rfl sizeOf94 e5_43) <| A1 14 <| AO.set rfl gnone hH88 (j := 2) rfl (sQ (sQ (sQ (sP (sP (sP (sA sR))))))) (run_st rfl rfl (v := v89) rfl (row_cells (hH88.get (i := 1) rfl)).1 (row_cells (hH88.get (i := 1) rfl)).2 (hH88.blk (i := 2) rfl) (by show 4 < 5; decide)) <| fun w92 hH93 => ?_
      simp only [z2] at hH93
      refine AD <| CW.region <| vm e6_43 <| V (run_add rfl rfl (by omega)) <| aI rfl <| RL.nil <| ?_
      refine ⟨(k + 1, v89, (gs ++ [n79]), (Z76 ++ Z)), ?_, fr43.u4.u4.u4.u4.u4.u1.u1, (Hp.conv (hH93.sub (sQ sR)) (by simp [nodeL, kidsR, kindR, NodeR.kind, NodeR.place, NodeR.text, NodeR.nv, NodeR.kv]; done)), (congrArg I (by rfl)), ?_, ?_, ?_, ?_, ?_⟩
      ·((try dsimp only); omega)
      ·omega
      ·omega
      ·rw [consts_nextR h0, List.map_append, hm]; exact congrArg (_ ++ [·]) nd80
      ·exact (hF.mono (Le.zz fun y hy => List.mem_append_right _ hy)).snoc (NodeV.mono (Le.zz fun y hy => List.mem_append_left _ hy) nv81)
      ·simp only [List.length_append, List.length_singleton]; omega
     ·refine AO.new rfl gnone rfl hH78 (sQ (sQ (sP (sP (sP (sA sR)))))) (f := fun b => .slice (some ⟨b, 0, none⟩) 1 1) (run_mkRecs nodeL_len underlying94 rfl rfl rfl (l := [n79]) rfl (by decide) (by decide) rfl) <| fun b96 w94 hH95 => A1 1 <| AO.read rfl gnone rfl hH95 (sQ (sQ (sQ (sP (sP (sP (sA sR))))))) (run_ld underlying94 rfl rfl (hH95.cell (i := 2) rfl rfl)) <| A1 12 <| AO.app rfl gnone rfl hH95 (j := 1) rfl (fun _ => (sQ (sQ (sQ (sP (sP (sP (sA sR)))))))) (Hp.slFlat nodeL_len hH95 (i := 0) (l := [n79]) rfl (by simp [maxLen])) rfl rfl underlying94 rfl rfl (size := 5) (bytes := 80) rfl rfl rfl (by decide) (node1_one nv81) (by simp only [List.length_cons, List.length_nil]; omega) (by simp only [maxLen, List.length_cons, List.length_nil]; omega) <| fun v101 w99 hH100 => ?_
      simp only [z2] at hH100
      refine AQ 13 rfl (hH100.sub (sQ (sQ (sQ (sP (sP (sP (sA sR)))))))) (fA underlying96 4 rfl sizeOf94 e5_43) <| A1 14 <| AO.set rfl gnone hH100 (j := 2) rfl (sQ (sQ (sQ (sP (sP (sP (sA sR))))))) (run_st rfl rfl (v := v101) rfl (row_cells (hH100.get (i := 1) rfl)).1 (row_cells (hH100.get (i := 1) rfl)).2 (hH100.blk (i := 2) rfl) (by show 4 < 5; decide)) <| fun w104 hH105 => ?_
      simp only [z2] at hH105
      refine AD <| CW.region <| vm e6_43 <| V (run_add rfl rfl (by omega)) <| aI rfl <| RL.nil <| ?_
      refine ⟨(k + 1, v101, (gs ++ [n79]), (Z76 ++ Z)), ?_, fr43.u4.u4.u4.u4.u4.u1.u1, (Hp.conv (hH105.sub (sQ sR)) (by simp [nodeL, kidsR, kindR, NodeR.kind, NodeR.place, NodeR.text, NodeR.nv, NodeR.kv]; done)), (congrArg I (by rfl)), ?_, ?_, ?_, ?_, ?_⟩
      ·((try dsimp only); omega)
      ·omega
      ·omega
      ·rw [consts_nextR h0, List.map_append, hm]; exact congrArg (_ ++ [·]) nd80
      ·exact (hF.mono (Le.zz fun y hy => List.mem_append_right _ hy)).snoc (NodeV.mono (Le.zz fun y hy => List.mem_append_left _ hy) nv81)
      ·simp only [List.length_append, List.length_singleton]; omega
   ·refine CW.exit (id := 0) rfl <| SR <| ?_
    obtain ⟨Z106, hz107, hv108, -⟩ := hH43.frz (K)
    have hH109 : Hp _ w43 (_ :: _ :: _ :: _ :: (Z106 ++ Z)) := hz107.zin (L := [_, _, _, _]) (L' := Z)
    have hN110 : NodeV (Kz K (Z106 ++ Z)) ((kidsR 4 kv gs)) := kidsR_v (hv108.mono (Le.zz fun x hx => List.mem_append_left _ hx)) (hF.mono (Le.zz fun x hx => List.mem_append_right _ hx))
    refine V (run_ldA (cs := nodeL ((kidsR 4 kv gs))) underlying96 rfl rfl e5_43 (rangeAt_cells (hH109.blk (i := 0) rfl))) <| RL.set hH109 (i := 1) rfl (run_stW (c' := (nodeL ((kidsR 4 kv gs))).toArray) rfl e4_43 rfl (nodeL_one hN110) (hH109.blk (i := 1) rfl) rfl) <| fun w111 hH112 => ?_
    simp only [z2] at hH112
    refine RL.nil <| CW.ret <| outCg Tryz.results67 e4_43 hH112 (i := 1) rfl underlying96 rfl rfl ⟨(Z106 ++ Z), (hH112.sub (sQ (sQ (sQ (sQ sR))))), (kidsR 4 kv gs), rfl, ?_, hN110⟩
    exact nodeF_t hfit (nf ‹(!s.tuple) = false›) (by omega) hm
theorem c_term_commas (n : Int) (f : FuncId) (cs : List Value) (T : Int → Tx) (hn : 0 ≤ n ∧ n ≤ 9223372036854775807) (hsz : ((upto n).map fun i => (T i).size + 1).sum ≤ 999999996) (w : World) (hf : ∀ args w, (callFunc f args).run Tryz.prog w = .ok (.enter f args) w) (go : ∀ i w', Below w.heap.size w w' → 0 ≤ i → i < n → Calls Tryz.prog f (I i :: cs).toArray w' (Pure (S (T i)) w')) : Calls Tryz.prog 113 #[I n, .func (.func f) #[] cs.toArray] w (Pure (S (commasTo T n)) w) := by
 refine enter Tryz.func113 rfl Tryz.ntmps113 rfl <| have hH := Hp.start w; SR <| va (v := .string ⟨#[]⟩) rfl <| RL.nil <| SR <| va (v := .slice none 0 0) rfl <| have hH1 := hH.nilRow 5 1; RL.nil <| CW.seq <| SR <| mI rfl <| vm (v := I 0) rfl <| RL.nil <| CW.block <| CW.loop (G := Int × Tx × Value) (fun ⟨k, m, v5⟩ s' w' => (Fr (5 :: 6 :: (rg 8 14 [])) _ s') ∧ (Hp w w' (.row v5 5 1 (m.size) (byL m) :: _)) ∧ (s' 5 = v5) ∧ (s' 8 = I k) ∧ (0 ≤ k) ∧ (k ≤ n) ∧ (m = commasTo T k)) (fun ⟨k, m, v5⟩ => (n - k).toNat) ((0, tx0, (.slice none 0 0 : Value))) ⟨Fr.refl _ _, hH1, rfl, rfl, (by omega), (by omega), rfl⟩ <| ?_
 rintro ⟨k, m, v5⟩ sg2 w2 ⟨fr2, hH2, e5_2, e8_2, h0, hk, hm⟩
 have e1_2 := fr2.vv 1 (a := .func _ _ _) rfl rfl
 have e7_2 := fr2.ii 7 rfl rfl
 subst hm
 refine SR <| V (run_lss e8_2 e7_2) <| RL.nil <| CW.seq <| CW.condP rfl (fun h4 => ?_) (fun h4 => ?_)
 ·refine CW.skip <| CW.seq <| CW.block <| SR <| vm e8_2 <| aI rfl <| RL.nil <| CW.seq <| SR <| mI rfl <| V (run_gtr rfl rfl) <| RL.nil <| CW.condP rfl (fun h6 => ?_) (fun h6 => ?_)
  ·refine CW.region <| vm e5_2 <| RL.new rfl hH2 (f := fun b => (.slice (some ⟨b, 0, none⟩) 1 1)) (run_mkL underlying98 rfl rfl (sz := 1) (vs := [.int .u8 44]) rfl rfl (by decide) (by decide) rfl rfl) <| fun b9 w7 hH8 => ?_
   (try simp only [clX] at hH8)
   refine RL.app rfl hH8 (i := 1) rfl (hH8.slBlk (i := 0) (n := 1) (sz := 1) rfl rfl (by decide)) rfl rfl underlying98 rfl rfl (size := 1) (bytes := 1) rfl rfl rfl (by decide) (by simp [Value.oneCell']) (by have := T_sz T h0 ‹k < n›; omega) (by have := T_sz T h0 ‹k < n›; simp only [maxLen]; omega) <| fun v10 w11 hH12 => ?_
   simp only [z2] at hH12
   refine V (run_assign (by conv => lhs; whnf)) ?_
   refine RL.nil <| CW.region <| ?_
   refine V (run_move (by conv => lhs; whnf)) ?_
   refine vm e1_2 <| mI rfl <| RL.callP rfl hH12 (go _ _ hH12.below (by omega) (by omega)) (run_callC1 hf (cs := cs) rfl rfl) <| fun w13 hH14 => RL.appS rfl hH14 (i := 1) rfl rfl rfl underlying98 underlying9 rfl rfl rfl rfl (by have := T_sz T h0 ‹k < n›; (try simp only [List.length_cons, List.length_nil]); omega) <| fun v15 w16 hH17 => ?_
   simp only [z2] at hH17
   refine V (run_assign (by conv => lhs; whnf)) ?_
   refine RL.nil <| CW.region <| V (run_add e8_2 rfl (by omega)) <| mI rfl <| RL.nil <| ?_
   refine ⟨(k + 1, commasTo T (k + 1), v15), ?_, fr2.u4.u4.u4.u4.u1, (Hp.conv (hH17.sub (sQ sR)) (by rw [← commas_2 ‹0 < k›, tx_size_app, tx_size_app, byL_app, byL_app]; rfl)), rfl, (congrArg I (by rfl)), ?_, ?_, ?_⟩
   ·((try dsimp only); omega)
   ·omega
   ·omega
   ·rfl
  ·refine CW.skip <| CW.region <| vm e5_2 <| vm e1_2 <| mI rfl <| RL.callP rfl hH2 (go _ _ hH2.below (by omega) (by omega)) (run_callC1 hf (cs := cs) rfl rfl) <| fun w18 hH19 => RL.appS rfl hH19 (i := 0) rfl rfl rfl underlying98 underlying9 rfl rfl rfl rfl (by have := T_sz T h0 ‹k < n›; (try simp only [List.length_cons, List.length_nil]); omega) <| fun v20 w21 hH22 => ?_
   simp only [z2] at hH22
   refine V (run_assign (by conv => lhs; whnf)) ?_
   refine RL.nil <| CW.region <| V (run_add e8_2 rfl (by omega)) <| mI rfl <| RL.nil <| ?_
   refine ⟨(k + 1, commasTo T (k + 1), v20), ?_, fr2.u4.u4.u4.u1, (Hp.conv hH22 (by rw [← commas_1 (show k = 0 by omega), tx_size_app, byL_app])), rfl, (congrArg I (by rfl)), ?_, ?_, ?_⟩
   ·((try dsimp only); omega)
   ·omega
   ·omega
   ·rfl
 ·refine CW.exit (id := 0) rfl <| SR <| vm e5_2 <| V (run_convBS (s := (commasTo T k)) (hH2.sl (i := 0) rfl) underlying98 underlying5 underlying9 rfl) <| va (v := .string _) rfl <| RL.nil <| CW.ret <| outP1 Tryz.results113 ?_ hH2.below
  exact congrArg S (by rw [show n = k by omega])
theorem c_term_names_1 (b : Nat) (n : NodeR) (i : Int) (hi : 0 ≤ i ∧ i < n.names.length) (w : World) (hn : NodeV (Kw w) n) (hb : w.heap[b]? = some (.cells (nodeL n).toArray 96 (0, 0))) : Calls Tryz.prog 114 #[I i, .pointer (some ⟨b, 0, none⟩)] w (Pure (S (n.names.getD i.toNat wd0).text) w) := by
 refine enter Tryz.func114 rfl Tryz.ntmps114 rfl <| have hH := Hp.start w; SR <| va (v := .string ⟨#[]⟩) rfl <| RL.nil <| SR <| V (fA underlying96 3 rfl sizeOf93 rfl) <| V (run_ldV (hn.names_.sl.hp hH) underlying93 rfl rfl (hH.extCell hb rfl)) <| mI rfl <| V (run_indexAddrS (hn.names_.sl.hp hH) underlying93 sizeOf128 rfl rfl (by omega)) <| V (fA underlying128 0 rfl sizeOf9 rfl) <| V (run_ldE1 (dv := wd0) (off := 0) wdL_len (hn.names_.sl.hp hH) underlying9 rfl rfl (by omega) rfl) <| va (v := .string _) rfl <| RL.nil <| CW.ret <| outP1 Tryz.results114 ?_ hH.below
 rfl
theorem c_term_kids_1 (b : Nat) (n : NodeR) (i : Int) (hi : 0 ≤ i ∧ i < n.kids.length) (htx : TxN n.nd) (w : World) (hn : NodeV (Kw w) n) (hb : w.heap[b]? = some (.cells (nodeL n).toArray 96 (0, 0))) (ih : ∀ x ∈ n.kids, TxN x.nd → ∀ w, NodeV (Kw w) x → Calls Tryz.prog 64 #[.agg (nodeL x).toArray] w (Pure (S (textF x.nd)) w)) : Calls Tryz.prog 115 #[I i, .pointer (some ⟨b, 0, none⟩)] w (Pure (S (textF (n.kids.getD i.toNat node0).nd)) w) := by
 refine enter Tryz.func115 rfl Tryz.ntmps115 rfl <| have hH := Hp.start w; SR <| va (v := .string ⟨#[]⟩) rfl <| RL.nil <| SR <| V (fA underlying96 4 rfl sizeOf94 rfl) <| V (run_ldV (hn.kids_.sl.hp hH) underlying94 rfl rfl (hH.extCell hb rfl)) <| mI rfl <| V (run_indexAddrS (hn.kids_.sl.hp hH) underlying94 sizeOf96 rfl rfl (by omega)) <| V (run_ldE (dv := node0) nodeL_len (hn.kids_.sl.hp hH) underlying96 rfl rfl rfl (by omega)) <| RL.callP rfl hH (ih _ (List.mem_of_getElem? (getD_at (d := node0) hi.1 hi.2)) (htx.kidR (List.mem_of_getElem? (getD_at (d := node0) hi.1 hi.2))) _ (NodeV.mono hH.kw (hn.at hi.1 hi.2))) (run_call1 call64 rfl) <| fun w1 hH2 => va (v := .string _) rfl <| RL.nil <| CW.ret <| outP1 Tryz.results115 ?_ hH2.below
 rfl
theorem c_term_names (n : NodeR) (htx : TxN n.nd) (w : World) (hn : NodeV (Kw w) n) : Calls Tryz.prog 90 #[.agg (nodeL n).toArray] w (Pure (S (namesT n.nd.names)) w) := by
 have hm1 := hn.kids_.small
 have hm2 := hn.names_.small
 unfold maxLen at hm1 hm2
 refine enter Tryz.func90 rfl Tryz.ntmps90 rfl <| have hH := Hp.start w; SR <| RL.new rfl hH (f := fun b => (.pointer (some ⟨b, 0, none⟩))) (run_box (v := .agg _) rfl) <| fun b3 w1 hH2 => va (v := .string ⟨#[]⟩) rfl <| RL.nil <| SR <| V (fA underlying96 3 rfl sizeOf93 rfl) <| V (run_ldV (hn.names_.sl.hp hH2) underlying93 rfl rfl (hH2.cell (i := 0) rfl rfl)) <| V (run_lenSl (hn.names_.sl.hp hH2) rfl underlying93 rfl) <| ?_
 refine V (run_mkF1 (by conv => lhs; whnf)) ?_
 refine RL.callP rfl hH2 (c_term_commas _ 114 [.pointer (some ⟨b3, 0, none⟩)] (fun i => (n.names.getD i.toNat wd0).text) (by omega) (names_bd htx) _ call114 (fun i w h h0 h1 => c_term_names_1 b3 n i ⟨h0, h1⟩ w (NodeV.mono (hH2.kw.trans (Kw.below h)) hn) (keep h (hH2.blk (i := 0) rfl)))) (run_call2 call113 rfl rfl) <| fun w4 hH5 => va (v := .string _) rfl <| RL.nil <| CW.ret <| outP1 Tryz.results90 ?_ hH5.below
 exact congrArg S (names_commas n)
theorem c_term_kids (n : NodeR) (htx : TxN n.nd) (w : World) (hn : NodeV (Kw w) n) (ih : ∀ x ∈ n.kids, TxN x.nd → ∀ w, NodeV (Kw w) x → Calls Tryz.prog 64 #[.agg (nodeL x).toArray] w (Pure (S (textF x.nd)) w)) : Calls Tryz.prog 91 #[.agg (nodeL n).toArray] w (Pure (S (commasF (n.nd.kids.map textF))) w) := by
 have hm1 := hn.kids_.small
 have hm2 := hn.names_.small
 unfold maxLen at hm1 hm2
 refine enter Tryz.func91 rfl Tryz.ntmps91 rfl <| have hH := Hp.start w; SR <| RL.new rfl hH (f := fun b => (.pointer (some ⟨b, 0, none⟩))) (run_box (v := .agg _) rfl) <| fun b3 w1 hH2 => va (v := .string ⟨#[]⟩) rfl <| RL.nil <| SR <| V (fA underlying96 4 rfl sizeOf94 rfl) <| V (run_ldV (hn.kids_.sl.hp hH2) underlying94 rfl rfl (hH2.cell (i := 0) rfl rfl)) <| V (run_lenSl (hn.kids_.sl.hp hH2) rfl underlying94 rfl) <| ?_
 refine V (run_mkF1 (by conv => lhs; whnf)) ?_
 refine RL.callP rfl hH2 (c_term_commas _ 115 [.pointer (some ⟨b3, 0, none⟩)] (fun i => textF (n.kids.getD i.toNat node0).nd) (by omega) (kids_bd htx) _ call115 (fun i w h h0 h1 => c_term_kids_1 b3 n i ⟨h0, h1⟩ htx w (NodeV.mono (hH2.kw.trans (Kw.below h)) hn) (keep h (hH2.blk (i := 0) rfl)) ih)) (run_call2 call113 rfl rfl) <| fun w4 hH5 => va (v := .string _) rfl <| RL.nil <| CW.ret <| outP1 Tryz.results91 ?_ hH5.below
 exact congrArg S (kids_commas n)
theorem s_text (n : NodeR) (htx : TxN n.nd) (w : World) (hn : NodeV (Kw w) n) (ih : ∀ x ∈ n.kids, TxN x.nd → ∀ w, NodeV (Kw w) x → Calls Tryz.prog 64 #[.agg (nodeL x).toArray] w (Pure (S (textF x.nd)) w)) : Calls Tryz.prog 64 #[.agg (nodeL n).toArray] w (Pure (S (textF n.nd)) w) := by
 have hm1 := hn.kids_.small
 have hm2 := hn.names_.small
 unfold maxLen at hm1 hm2
 have hkd := htx.kind
 rw [nd_kind] at hkd
 refine enter Tryz.func64 rfl Tryz.ntmps64 rfl <| have hH := Hp.start w; SR <| RL.new rfl hH (f := fun b => (.pointer (some ⟨b, 0, none⟩))) (run_box (v := .agg _) rfl) <| fun b3 w1 hH2 => va (v := .string ⟨#[]⟩) rfl <| RL.nil <| CW.seq <| SR <| V (fA underlying96 0 rfl sizeOf3 rfl) <| V (run_ld underlying3 rfl rfl (hH2.cell (i := 0) rfl (v := I _) rfl)) <| RL.nil <| CW.block <| CW.seq <| SR <| V (run_eql rfl rfl) <| aB rfl <| RL.nil <| CW.condP rfl (fun h5 => ?_) (fun h5 => ?_)
 ·refine CW.skip <| CW.condT (bT h5) <| SR <| V (fA underlying96 2 rfl sizeOf9 rfl) <| V (run_ld underlying9 rfl rfl (hH2.cell (i := 0) rfl (v := .string _) rfl)) <| va (v := .string _) rfl <| RL.nil <| CW.ret <| outP1 Tryz.results64 ?_ hH2.below
  (refine congrArg S ?_; ((rw [text_eq, nd_kind, if_pos (.inl ‹n.kind = 1›), nd_text]; done)))
 ·refine CW.region <| V (run_eql rfl rfl) <| aB rfl <| RL.nil <| CW.condP rfl (fun h7 => ?_) (fun h7 => ?_)
  ·refine SR <| V (fA underlying96 2 rfl sizeOf9 rfl) <| V (run_ld underlying9 rfl rfl (hH2.cell (i := 0) rfl (v := .string _) rfl)) <| va (v := .string _) rfl <| RL.nil <| CW.ret <| outP1 Tryz.results64 ?_ hH2.below
   (refine congrArg S ?_; ((rw [text_eq, nd_kind, if_pos (.inr ‹n.kind = 2›), nd_text]; done)))
  ·refine SR <| V (run_eql rfl rfl) <| aB rfl <| RL.nil <| CW.condP rfl (fun h9 => ?_) (fun h9 => ?_)
   ·refine SR <| V (run_ldA (cs := nodeL _) underlying96 rfl rfl rfl (rangeAt_cells (hH2.blk (i := 0) rfl))) <| RL.callP rfl hH2 (c_term_names n htx _ (NodeV.mono hH2.kw hn)) (run_call1 call90 rfl) <| fun w10 hH11 => V (run_addS rfl rfl (by have ha := htx.nmT; have hb := htx.kdT; have hc := htx.txT; rw [nd_text] at hc; (try simp only [tx_size_app]); (try simp only [tsz1, tsz2]); omega)) <| V (run_addS rfl rfl (by have ha := htx.nmT; have hb := htx.kdT; have hc := htx.txT; rw [nd_text] at hc; (try simp only [tx_size_app]); (try simp only [tsz1, tsz2]); omega)) <| va (v := .string _) rfl <| RL.nil <| CW.ret <| outP1 Tryz.results64 ?_ hH11.below
    (refine congrArg S ?_; ((rw [text_eq, nd_kind, if_neg (by omega), if_pos ‹n.kind = 3›]; rfl)))
   ·refine SR <| V (run_eql rfl rfl) <| aB rfl <| RL.nil <| CW.condP rfl (fun h13 => ?_) (fun h13 => ?_)
    ·refine SR <| V (run_ldA (cs := nodeL _) underlying96 rfl rfl rfl (rangeAt_cells (hH2.blk (i := 0) rfl))) <| RL.callP rfl hH2 (c_term_kids n htx _ (NodeV.mono hH2.kw hn) ih) (run_call1 call91 rfl) <| fun w14 hH15 => V (run_addS rfl rfl (by have ha := htx.nmT; have hb := htx.kdT; have hc := htx.txT; rw [nd_text] at hc; (try simp only [tx_size_app]); (try simp only [tsz1, tsz2]); omega)) <| V (run_addS rfl rfl (by have ha := htx.nmT; have hb := htx.kdT; have hc := htx.txT; rw [nd_text] at hc; (try simp only [tx_size_app]); (try simp only [tsz1, tsz2]); omega)) <| va (v := .string _) rfl <| RL.nil <| CW.ret <| outP1 Tryz.results64 ?_ hH15.below
     (refine congrArg S ?_; ((rw [text_eq, nd_kind, if_neg (by omega), if_neg (by omega), if_pos ‹n.kind = 4›]; rfl)))
    ·refine SR <| V (run_eql rfl rfl) <| aB rfl <| RL.nil <| CW.condP rfl (fun h17 => ?_) (fun h17 => ?_)
     ·refine SR <| V (run_ldA (cs := nodeL _) underlying96 rfl rfl rfl (rangeAt_cells (hH2.blk (i := 0) rfl))) <| RL.callP rfl hH2 (c_term_kids n htx _ (NodeV.mono hH2.kw hn) ih) (run_call1 call91 rfl) <| fun w18 hH19 => V (run_addS rfl rfl (by have ha := htx.nmT; have hb := htx.kdT; have hc := htx.txT; rw [nd_text] at hc; (try simp only [tx_size_app]); (try simp only [tsz1, tsz2]); omega)) <| V (run_addS rfl rfl (by have ha := htx.nmT; have hb := htx.kdT; have hc := htx.txT; rw [nd_text] at hc; (try simp only [tx_size_app]); (try simp only [tsz1, tsz2]); omega)) <| va (v := .string _) rfl <| RL.nil <| CW.ret <| outP1 Tryz.results64 ?_ hH19.below
      (refine congrArg S ?_; ((rw [text_eq, nd_kind, if_neg (by omega), if_neg (by omega), if_neg (by omega), if_pos ‹n.kind = 5›]; rfl)))
     ·refine SR <| V (run_eql rfl rfl) <| aB rfl <| RL.nil <| CW.condP rfl (fun h21 => ?_) (fun h21 => ?_)
      ·refine CW.seq <| CW.regionD (by kernel_rfl) hH2 <| fun w22 hH23 => have zh23 := hH23.sub sR; AQ 0 rfl zh23 (fA underlying96 2 rfl sizeOf9 rfl) <| AT 1 rfl zh23 (fun w hS => run_ld underlying9 rfl rfl (hS.cell (i := 0) rfl (v := .string _) rfl)) <| AQ 2 rfl zh23 (run_addS rfl rfl (by have ha := htx.nmT; have hb := htx.kdT; have hc := htx.txT; rw [nd_text] at hc; (try simp only [tx_size_app]); (try simp only [tsz1, tsz2]); omega)) <| AT 3 rfl zh23 (fun w hS => run_ldA (cs := nodeL _) underlying96 rfl rfl rfl (rangeAt_cells (hS.blk (i := 0) rfl))) <| A1 4 <| AO.callP rfl gnone rfl hH23 sR (c_term_names n htx _ (NodeV.mono hH23.kw hn)) (run_call1 call90 rfl) <| fun w24 hH25 => have zh25 := hH25.sub sR; AQ 5 rfl zh25 (run_addS rfl rfl (by have ha := htx.nmT; have hb := htx.kdT; have hc := htx.txT; rw [nd_text] at hc; (try simp only [tx_size_app]); (try simp only [tsz1, tsz2]); omega)) <| AQ 6 rfl zh25 (run_addS rfl rfl (by have ha := htx.nmT; have hb := htx.kdT; have hc := htx.txT; rw [nd_text] at hc; (try simp only [tx_size_app]); (try simp only [tsz1, tsz2]); omega)) <| AQ 7 rfl zh25 (aV (.string _) rfl) <| AD <| CW.ret <| outP1 Tryz.results64 ?_ hH25.below
       (refine congrArg S ?_; ((rw [text_eq, nd_kind, if_neg (by omega), if_neg (by omega), if_neg (by omega), if_neg (by omega), if_pos ‹n.kind = 6›, nd_text]; rfl)))
      ·refine SR <| V (run_eql rfl rfl) <| aB rfl <| RL.nil <| CW.condF (bF ((by omega))) <| SR <| V (run_eql rfl rfl) <| aB rfl <| RL.nil <| CW.condF (bF ((by omega))) <| SR <| V (run_eql rfl rfl) <| aB rfl <| RL.nil <| CW.condF (bF ((by omega))) <| SR <| V (run_eql rfl rfl) <| aB rfl <| RL.nil <| CW.condF (bF ((by omega))) <| SR <| V (run_eql rfl rfl) <| aB rfl <| RL.nil <| CW.condF (bF ((by omega))) <| CW.skip <| SR <| va (v := .string ⟨#[]⟩) rfl <| RL.nil <| CW.ret <| outP1 Tryz.results64 ?_ hH2.below
       (refine congrArg S ?_; (rw [text_eq, nd_kind, if_neg (by omega), if_neg (by omega), if_neg (by omega), if_neg (by omega), if_neg (by omega)]))
theorem c_term_Text (n : NodeR) : TxN n.nd → ∀ w, NodeV (Kw w) n → Calls Tryz.prog 64 #[.agg (nodeL n).toArray] w (Pure (S (textF n.nd)) w) := node_ind (C := fun n => TxN n.nd → ∀ w, NodeV (Kw w) n → Calls Tryz.prog 64 #[.agg (nodeL n).toArray] w (Pure (S (textF n.nd)) w)) (fun n ih htx w hn => s_text n htx w hn ih) n
end Go.Proofs.YtieckcbckgalhaaGreatDoor.W
